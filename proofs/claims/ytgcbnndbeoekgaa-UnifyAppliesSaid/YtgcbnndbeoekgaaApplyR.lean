/- the document's Apply -/
import Derived.Test.YtgcbnndbeoekgaaApplyP
import Derived.Test.YtgcbnndbeoekgaaRefParse
set_option linter.unusedSimpArgs false
set_option linter.unusedVariables false
namespace Go.Proofs.Ytgcbnndbeoekgaa
open Go Go.RowKit

set_option maxRecDepth 100000 in
set_option maxHeartbeats 4000000 in
theorem rapply_any (A2 : Option Addr) (c2 : Nat) (bd : List ABind) (A : Option Addr) (c : Nat) (l : List TN) (w : World) (F : Nat → Prop) (hF : ∀ b, F b → b < w.heap.size) (hr : RowOf 3 ETN w F A l) (hrb : RowOf 2 EBind w F A2 bd) (hlc : l.length ≤ c) (hc : c ≤ maxLen) (hlc2 : bd.length ≤ c2) (hc2 : c2 ≤ maxLen)
    (hz : ∀ t ∈ l, t.name.size ≤ 9223372036854775807) (hz2 : ∀ x ∈ bd, ∀ t ∈ x.term, t.name.size ≤ 9223372036854775807) :
    Calls Try.prog 15 #[.slice A2 bd.length c2, .agg #[.slice A l.length c]] w (TermRes w (applyE bd l) (applyL bd l)) := by
  have HMAY : Hid (∀ w', Below w.heap.size w w' → Calls Try.prog 28 #[.slice A2 bd.length c2] w' fun e w2 => e = .returned (.bool (mayB bd)) ∧ Below w'.heap.size w' w2) := Lib.hid (fun w' hb => rmay_any A2 c2 bd w' F (fun b h => Nat.lt_of_lt_of_le (hF b h) hb.size) (hrb.keep EBind.stays (Keep.below hb hF) (fun _ h => h)) hlc2 hc2 hz2)
  have HRI : Hid (∀ w', Below w.heap.size w w' → Calls Try.prog 29 #[.agg #[.slice A l.length c]] w' fun e w2 => e = .returned (.int .i64 (rightI l)) ∧ Below w'.heap.size w' w2) := Lib.hid (fun w' hb => rright_any A c l w' F (fun b h => Nat.lt_of_lt_of_le (hF b h) hb.size) (hr.keep ETN.stays (Keep.below hb hF) (fun _ h => h)) hlc hc hz)
  have HR := Lib.hid hr; have HRB := Lib.hid hrb
  have hcm := hc; have hcm2 := hc2
  unfold maxLen at hc hc2
  obtain ⟨mb, hmb⟩ : ∃ q, mayB bd = q := ⟨_, rfl⟩
  obtain ⟨ri, hri⟩ : ∃ q, rightI l = q := ⟨_, rfl⟩
  have HMB := Lib.hid hmb; have HRIE := Lib.hid hri
  rw [hmb] at HMAY
  rw [hri] at HRI
  clear hmb hri hr hrb hz hz2
  go_enter Try.func15, Try.ntmps15
  go_wp2_with fail
  refine (HMAY.out _ (((Below.refl _ _).alloc (Nat.le_refl _) _).alloc (by simp) _)).mono ?_
  rintro _ w2 ⟨rfl, hb2⟩
  have HB2 : Hid (Below w.heap.size w w2) := Lib.hid ((((Below.refl w.heap.size w).alloc (Nat.le_refl _) (.cells #[.slice A l.length c] 24)).alloc (by simp) (.cells #[.slice none 0 0] 24)).trans (hb2.mono (by simp; omega)))
  have HX2 := Lib.hid (((Blk.new w 24 #[.slice A l.length c]).alloc (.cells #[.slice none 0 0] 24)).below hb2 (by simp; omega))
  have HY2 : Hid (Blk w2 (w.heap.size + 1) 24 #[.slice none 0 0]) := Lib.hid ((Blk.new' (w := w.alloc (.cells #[.slice A l.length c] 24)) (by simp)).below hb2 (by simp))
  clear hb2
  cases mb
  · have hmay : ¬ MayP bd := fun h => by have := HMB.out; rw [mayB_yes h] at this; cases this
    have HE := Lib.hid (apply_not (l := l) hmay)
    have c0 := HY2.out.cell 0; have f0 := HY2.out.frozen 0; have hyl := HY2.out.lt
    simp at c0
    clear hmay
    go_wp2
    have hy3 := HY2.out.set_ 0 (.slice none 0 0)
    have c1 := hy3.cell 0
    simp at c1
    refine bodyPost_ret (v := .tuple #[.agg #[.slice none 0 0], .int .i64 2]) (by simp [results, Try.results15, go_sem, c1]) rfl ?_
    exact ⟨_, by rw [HE.out.1], HB2.out.setCell (p := ⟨w.heap.size + 1, 0, none⟩) (by show w.heap.size ≤ w.heap.size + 1; omega) _, by rw [HE.out.2]; exact IsRow.nil⟩
  have HMAYP : Hid (MayP bd) := Lib.hid (mayB_iff.1 HMB.out)
  have x0 := HX2.out.cell 0
  have hxl := HX2.out.lt
  simp at x0
  go_wp2_with fail
  clear x0 hxl
  refine (HRI.out _ HB2.out).mono ?_
  rintro _ w3 ⟨rfl, hb3⟩
  have HB3 := Lib.hid (HB2.out.trans (hb3.mono HB2.out.size))
  have HX3 := Lib.hid (HX2.out.below hb3 HX2.out.lt); have HY3 := Lib.hid (HY2.out.below hb3 HY2.out.lt)
  clear hb3 HB2 HX2 HY2
  by_cases hri0 : ri = 0
  case neg =>
    have HE := Lib.hid (apply_bad (l := l) HMAYP.out (by rw [HRIE.out]; exact hri0))
    have c0 := HY3.out.cell 0; have f0 := HY3.out.frozen 0; have hyl := HY3.out.lt
    simp at c0
    have e1 : (ri != 0) = true := by simp; exact hri0
    clear hri0
    go_wp2
    have hy3 := HY3.out.set_ 0 (.slice none 0 0)
    have c1 := hy3.cell 0
    simp at c1
    refine bodyPost_ret (v := .tuple #[.agg #[.slice none 0 0], .int .i64 ri]) (by simp [results, Try.results15, go_sem, c1]) rfl ?_
    exact ⟨_, by rw [HE.out.1, HRIE.out], HB3.out.setCell (p := ⟨w.heap.size + 1, 0, none⟩) (by show w.heap.size ≤ w.heap.size + 1; omega) _, by rw [HE.out.2]; exact IsRow.nil⟩
  case pos =>
  subst hri0
  have HBND := Lib.hid (bsOf_ok HMAYP.out)
  have HTR := Lib.hid (treeOf_ok HRIE.out)
  have HGN : Hid (∀ t ∈ l, NodeR t) := Lib.hid (rightI_zero HRIE.out).2.1
  have hll : l.length ≤ 256 := (rightI_zero HRIE.out).1
  obtain ⟨bs, hbs⟩ : ∃ bs, bsOf bd = bs := ⟨_, rfl⟩
  have HBS := Lib.hid hbs
  rw [hbs] at HBND
  clear hbs
  go_upto_region 8 with fail
  go_loopg [7, 8] l.length (fun g s7 s8 wx => ∃ i : Nat, s8 = .int .i64 i ∧ s7 = .int .i64 (sumTo (lookB bs) l i : Nat) ∧ g = l.length - i ∧ i ≤ l.length ∧ Below w.heap.size w wx ∧ Blk wx w.heap.size 24 #[.slice A l.length c] ∧ Blk wx (w.heap.size + 1) 24 #[.slice none 0 0])
  case atStart => exact ⟨0, rfl, rfl, rfl, Nat.zero_le _, HB3.out, HX3.out, HY3.out⟩
  case round =>
    clear HB3 HX3 HY3
    obtain ⟨i, rfl, rfl, rfl, hi, hb, hx, hy⟩ := hrel
    have HB := Lib.hid hb; have HX := Lib.hid hx; have HY := Lib.hid hy
    have x0 := hx.cell 0
    have hxl := hx.lt
    simp at x0
    have i0 : (0 : Int) ≤ i := by omega
    have hsm := sumTo_le HBND.out l i
    clear hx hy
    by_cases hlt : i < l.length
    · have hlt' : (i : Int) < l.length := by omega
      obtain ⟨b, off, S, k, rfl, hbF, d0, _⟩ := nodes_at HR.out hlt
      have d0 := (hb.cell (p := ⟨b, off + i * 3, none⟩) (hF b hbF)).trans d0
      obtain ⟨n, hn⟩ := node_nat (HGN.out _ (List.getElem_mem hlt))
      have HSN := Lib.hid (sumTo_next (σ := lookB bs) hlt)
      have HWN := Lib.hid (fun T (h : lookB bs n = some T) => wgt_some (t := l[i]) hn h)
      have HWZ := Lib.hid (fun (h : lookB bs n = none) => wgt_none (t := l[i]) hn h)
      rw [hn] at d0
      obtain ⟨sm, hsmE⟩ : ∃ s, sumTo (lookB bs) l i = s := ⟨_, rfl⟩
      have HSM := Lib.hid hsmE
      rw [hsmE] at hsm ⊢
      clear hn hb hsmE
      have sm0 : (0 : Int) ≤ sm := by omega
      have sm1 : (sm : Int) ≤ 65536 := by omega
      cases hlook : lookB bs n with
      | some Y =>
        obtain ⟨m, hm, hm1, hm2, hm3⟩ := HBND.out.at_ hlook
        obtain ⟨y1, y2, y3, y4, y5⟩ := HBND.out.some_ hlook
        obtain ⟨b3, off3, S3, k3, rfl, hbF3, _, z1, _, _, _⟩ := bind_at HRB.out hm
        rw [hm2] at z1
        have HFD := Lib.hid (fun w' (hb : Below w.heap.size w w') => rfind_yes b3 off3 c2 bd (n : Int) w' F (fun b h => Nat.lt_of_lt_of_le (hF b h) hb.size) (HRB.out.keep EBind.stays (Keep.below hb hF) (fun _ h => h)) hlc2 hcm2 m hm hm1 hm3 S3 (Y.flat 0).length k3 ((hb.cell (p := ⟨b3, off3 + m * 2 + 1, none⟩) (hF _ hbF3)).trans z1))
        have HWT := Lib.hid (HWN.out Y hlook)
        have hY0 : (Y.flat 0).length = Y.size := Fo.flat_len Y 0
        rw [hY0] at HFD
        obtain ⟨yl, hyl⟩ : ∃ yl, Y.size = yl := ⟨_, rfl⟩
        have HYL := Lib.hid hyl
        rw [hyl] at HFD y4
        have HNEW : Hid (sumTo (lookB bs) l (i + 1) = sm + yl) := Lib.hid (by rw [HSN.out, HSM.out, HWT.out, HYL.out])
        clear hlook hm1 hm2 hm3 y1 y2 y3 y5 z1 hY0 hyl
        go_wp2_with fail
        refine (HFD.out _ HB.out).mono ?_
        rintro _ w4 ⟨rfl, hb4⟩
        have HB4 := Lib.hid (HB.out.trans (hb4.mono HB.out.size))
        have HX4 := Lib.hid (HX.out.below hb4 hxl); have HY4 := Lib.hid (HY.out.below hb4 HY.out.lt)
        clear hb4 d0 x0
        go_wp2
        go_roundg (l.length - (i + 1))
        case measure => omega
        case rel => exact ⟨i + 1, by go_num, by rw [HNEW.out]; go_num, rfl, by omega, HB4.out.alloc HB4.out.size _, HX4.out.alloc _, HY4.out.alloc _⟩
      | none =>
        have HFD := Lib.hid (fun w' (hb : Below w.heap.size w w') => rfind_no A2 c2 bd (n : Int) w' F (fun b h => Nat.lt_of_lt_of_le (hF b h) hb.size) (HRB.out.keep EBind.stays (Keep.below hb hF) (fun _ h => h)) hlc2 hcm2 (HBND.out.no hlook))
        have HNEW : Hid (sumTo (lookB bs) l (i + 1) = sm + 1) := Lib.hid (by rw [HSN.out, HSM.out, HWZ.out hlook])
        clear hlook
        go_wp2_with fail
        refine (HFD.out _ HB.out).mono ?_
        rintro _ w4 ⟨rfl, hb4⟩
        have HB4 := Lib.hid (HB.out.trans (hb4.mono HB.out.size))
        have HX4 := Lib.hid (HX.out.below hb4 hxl); have HY4 := Lib.hid (HY.out.below hb4 HY.out.lt)
        clear hb4 d0 x0
        go_wp2
        go_roundg (l.length - (i + 1))
        case measure => omega
        case rel => exact ⟨i + 1, by go_num, by rw [HNEW.out]; go_num, rfl, by omega, HB4.out.alloc HB4.out.size _, HX4.out.alloc _, HY4.out.alloc _⟩
    · have hlt' : ¬ (i : Int) < l.length := by omega
      have hsz : sumTo (lookB bs) l i = (subOf bd l).size := by
        rw [sumTo_end hlt, subOf_size HMAYP.out HRIE.out, HBS.out]
      rw [hsz] at hsm ⊢
      clear hsz
      by_cases h3 : 256 < (subOf bd l).size
      · have HE := Lib.hid (apply_long (l := l) HMAYP.out HRIE.out h3)
        have h3' : (256 : Int) < (subOf bd l).size := by omega
        have c0 := HY.out.cell 0; have f0 := HY.out.frozen 0; have hyl := HY.out.lt
        simp at c0
        clear hb
        go_wp2
        have hy3 := HY.out.set_ 0 (.slice none 0 0)
        have c1 := hy3.cell 0
        simp at c1
        refine bodyPost_ret (v := .tuple #[.agg #[.slice none 0 0], .int .i64 3]) (by simp [results, Try.results15, go_sem, c1]) rfl ?_
        exact ⟨_, by rw [HE.out.1], HB.out.setCell (p := ⟨w.heap.size + 1, 0, none⟩) (by show w.heap.size ≤ w.heap.size + 1; omega) _, by rw [HE.out.2]; exact IsRow.nil⟩
      · have HE := Lib.hid (apply_ok (l := l) HMAYP.out HRIE.out h3)
        have h3' : ¬ (256 : Int) < (subOf bd l).size := by omega
        have HSAY := Lib.hid (fun i err out => says_sub (i := i) (err := err) (out := out) HMAYP.out HRIE.out h3)
        have HPL : Hid (∀ w', Below w.heap.size w w' → Calls Try.prog 31 #[.slice A2 bd.length c2, .slice A l.length c, .int .i64 ((0 : Nat) : Int)] w' fun e w2 => e = .returned (.string (byt ((subOf bd l).txt false))) ∧ Below w'.heap.size w' w2) := Lib.hid (fun w' hb => by
          obtain ⟨t1, t2, t3, t4⟩ := HTR.out
          have := rplaced_any (treeOf l).size A2 c2 bd bs A c l (treeOf l) 0 w' F HBND.out (Nat.le_refl _) t1 t2 (by
            have h := Seg.whole (treeOf l)
            rw [← t3] at h; exact h) (by
            have h : subOf bd l = (treeOf l).sub (lookB bs) := by unfold subOf; rw [HBS.out]
            rw [← h]; omega) hll hlc hcm hlc2 hcm2 (fun b h => Nat.lt_of_lt_of_le (hF b h) hb.size) (HR.out.keep ETN.stays (Keep.below hb hF) (fun _ h => h)) (HRB.out.keep EBind.stays (Keep.below hb hF) (fun _ h => h))
          rw [← HBS.out] at this
          exact this)
        have hzl : (byt ((subOf bd l).txt false)).size ≤ 9223372036854775807 := by
          have ho := (bsOf_ok HMAYP.out).ones
          have := Fo.txt_le (subOf bd l) false (Fo.sub_wf ho HTR.out.2.1)
          show ((subOf bd l).txt false).length ≤ _
          omega
        have HPA := Lib.hid (fun w' => refParse_any (byt ((subOf bd l).txt false)) hzl w')
        obtain ⟨st, hst⟩ : ∃ st, byt ((subOf bd l).txt false) = st := ⟨_, rfl⟩
        rw [hst] at HPL HPA HSAY
        clear hb hst hzl
        go_wp2_with fail
        refine (HPL.out _ HB.out).mono ?_
        rintro _ w4 ⟨rfl, hb4⟩
        have HB4 := Lib.hid (HB.out.trans (hb4.mono HB.out.size))
        have HX4 := Lib.hid (HX.out.below hb4 hxl); have HY4 := Lib.hid (HY.out.below hb4 HY.out.lt)
        clear hb4 x0
        go_wp2_with fail
        refine (HPA.out _).mono ?_
        rintro _ w5 ⟨v, pi, perr, out, rfl, hsay, hb5, hrow⟩
        obtain ⟨rfl, rfl, ho⟩ := HSAY.out _ _ _ hsay
        have HO := Lib.hid ho
        have HB5 := Lib.hid (HB4.out.trans (hb5.mono HB4.out.size))
        have HY5 := Lib.hid (HY4.out.below hb5 HY4.out.lt)
        obtain ⟨Av, cv, rfl, hv1, hv2, hv3⟩ := hrow
        have HV := Lib.hid (And.intro hv1 hv2); have HV3 := Lib.hid hv3
        have HW : Hid (w.heap.size + 1 < w5.heap.size) := Lib.hid HY5.out.lt
        have c0 := (HY5.out.alloc (.cells #[.slice Av out.length cv] 24)).cell 0; have f0 := (HY5.out.alloc (.cells #[.slice Av out.length cv] 24)).frozen 0; have hyl := HY5.out.lt
        simp at c0
        clear hsay hb5 ho hv1 hv2 hv3
        go_wp2
        have hy3 := (HY5.out.set_ 0 (.slice Av out.length cv)).alloc (.cells #[.slice Av out.length cv] 24)
        have c1 := hy3.cell 0
        simp at c1
        refine bodyPost_ret (v := .tuple #[.agg #[.slice Av out.length cv], .int .i64 0]) (by simp [results, Try.results15, go_sem, c1]) rfl ?_
        refine ⟨_, by rw [HE.out.1], (HB5.out.setCell (p := ⟨w.heap.size + 1, 0, none⟩) (by show w.heap.size ≤ w.heap.size + 1; omega) _).alloc (by simpa using HB5.out.size) _, ?_⟩
        rw [HE.out.2, ← HO.out]
        refine ⟨Av, cv, rfl, HV.out.1, HV.out.2, (nodes_avoid HV3.out (slice_noint HY5.out)).keep ETN.stays (fun p hp => ?_) (fun b hb => by simp; have := hb.1; omega)⟩
        rw [Keep.alloc (F := fun b => b < w5.heap.size) (w5.setCell ⟨w.heap.size + 1, 0, none⟩ (.slice Av out.length cv)) _ (fun b h => by simpa using h) p hp.1]
        exact keep_far (F := fun b => b ≠ w.heap.size + 1) (p := ⟨w.heap.size + 1, 0, none⟩) (fun b h => h) (.slice Av out.length cv) p hp.2
end Go.Proofs.Ytgcbnndbeoekgaa
