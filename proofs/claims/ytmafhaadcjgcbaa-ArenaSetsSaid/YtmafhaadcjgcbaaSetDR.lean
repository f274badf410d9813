import Derived.Test.YtmafhaadcjgcbaaSetP
import Derived.Test.YtmafhaadcjgcbaaTwinR
import Derived.Test.YtmafhaadcjgcbaaARight
import Derived.Test.YtmafhaadcjgcbaaAOrder
namespace Go.Proofs.Ytmafhaadcjgcbaa
open Go Go.RowKit

set_option maxRecDepth 100000 in
set_option maxHeartbeats 4000000 in
theorem dropR_any (A : Option Addr) (c : Nat) (m : AModel) (w : World) (F : Nat → Prop) (hF : ∀ b, F b → b < w.heap.size) (h : RowOf 7 ENode w F A m.nodes) (hz : ∀ x ∈ m.nodes, NodeOK x) (hz' : ∀ x ∈ m.nodes, LensOK x) (hl : m.nodes.length ≤ 9223372036854775807) (id : Int) (hid : InR id) (nm : ByteArray) (hns : nm.size ≤ 9223372036854775807)  :
    Calls Try.prog 42 #[.agg #[.int .i64 m.next, .slice A m.nodes.length c], .int .i64 id, .string nm] w fun e w' => (∃ v, e = .returned v ∧ SetAs w' w.heap.size m id (setE m nm False (atI m.nodes id < 0)) (dropN nm) v) ∧ Below w.heap.size w w' := by
  obtain ⟨EE, hEE⟩ : ∃ EE, setE m nm False (atI m.nodes id < 0) = EE := ⟨_, rfl⟩
  rw [hEE]
  have HEE := Lib.hid hEE
  clear hEE
  have HBA : Hid (Below w.heap.size w ((w.alloc (.cells #[.int .i64 m.next, .slice A m.nodes.length c] 24)).alloc (.cells #[.int .i64 0, .slice none 0 0] 24))) := Lib.hid (((Below.refl w.heap.size w).alloc (Nat.le_refl _) _).alloc (by simp) _)
  have HC := Lib.hid (right_any A c m _ F (fun b hb => Nat.lt_of_lt_of_le (hF b hb) HBA.out.size) (h.keep ENode.stays (Keep.below HBA.out hF) (fun _ h => h)) (fun x hx => (hz x hx).1) hl)
  have HM0 : Hid (Blk ((w.alloc (.cells #[.int .i64 m.next, .slice A m.nodes.length c] 24)).alloc (.cells #[.int .i64 0, .slice none 0 0] 24)) w.heap.size 24 #[.int .i64 m.next, .slice A m.nodes.length c]) := Lib.hid ((Blk.new w _ _).alloc _)
  have HR0 : Hid (Blk ((w.alloc (.cells #[.int .i64 m.next, .slice A m.nodes.length c] 24)).alloc (.cells #[.int .i64 0, .slice none 0 0] 24)) (w.heap.size + 1) 24 #[.int .i64 0, .slice none 0 0]) := Lib.hid (Blk.new' (by simp))
  have HH := Lib.hid h; have HZ := Lib.hid hz; have HZ' := Lib.hid hz'
  clear h hz hz'
  obtain ⟨u0, hu0⟩ : ∃ u : World, (w.alloc (.cells #[.int .i64 m.next, .slice A m.nodes.length c] 24)).alloc (.cells #[.int .i64 0, .slice none 0 0] 24) = u := ⟨_, rfl⟩
  rw [hu0] at HBA HC HM0 HR0
  have HU0 := Lib.hid hu0
  clear hu0
  have HB0 := HBA
  by_cases hc : CheckM m
  · have HC2 := Lib.hid (res_is (rightM_is.1 hc) HC.out)
    have HCM := Lib.hid hc
    have HS := Lib.hid hc.1.srtB
    have hl4 : m.nodes.length ≤ 4096 := hc.1.1.2.2
    have hnx : 1 ≤ m.next ∧ m.next ≤ 1048577 := ⟨hc.1.1.1, hc.1.1.2.1⟩
    clear hc HC
    rcases hwc : wordA nm with _ | _
    · have E := Lib.hid (show EE = 2 from HEE.out.symm.trans (setE_word HCM.out hwc))
      have HW := Lib.hid hwc
      clear hwc
      go_enter Try.func42, Try.ntmps42
      go_wp2_with fail
      (try rw [HU0.out])
      refine (HC2.out).mono ?_
      rintro _ u1 ⟨rfl, hb⟩
      have HB1 := Lib.hid (HB0.out.trans (hb.mono HB0.out.size))
      have HM1 := Lib.hid (HM0.out.below hb HM0.out.lt)
      have HR1 := Lib.hid (HR0.out.below hb HR0.out.lt)
      clear hb
      go_wp2_with fail
      refine (sword_is hns HW.out u1).mono ?_
      rintro _ u2 ⟨rfl, hb⟩
      have HB2 := Lib.hid (HB1.out.trans (hb.mono HB1.out.size))
      have HM2 := Lib.hid (HM1.out.below hb HM1.out.lt)
      have HR2 := Lib.hid (HR1.out.below hb HR1.out.lt)
      clear hb
      have t0 := HR2.out.frozen 0; have t1 := HR2.out.frozen 1
      have r0 := HR2.out.cell 0; have r1 := HR2.out.cell 1
      have hrlt := HR2.out.lt
      simp at r0 r1
      go_wp2_with fail
      have hyS := (HR2.out.set_ 0 (.int .i64 0)).set_ 1 (.slice none 0 0)
      have f0 := hyS.cell 0; have f1 := hyS.cell 1
      simp at f0 f1
      have HBW := Lib.hid ((HB2.out.setCell (p := ⟨w.heap.size + 1, 0, none⟩) (by show w.heap.size ≤ w.heap.size + 1; omega) (.int .i64 0)).setCell (p := ⟨w.heap.size + 1, 1, none⟩) (by show w.heap.size ≤ w.heap.size + 1; omega) (.slice none 0 0))
      exact bodyPost_ret (v := .tuple #[.agg #[.int .i64 0, .slice none 0 0], .int .i64 (2)]) (by simp [results, Try.results42, go_sem, f0, f1]) rfl ⟨⟨_, rfl, Or.inl ⟨by rw [E.out]; decide, by rw [E.out]⟩⟩, HBW.out⟩
    · have HW := Lib.hid hwc
      clear hwc
      rcases atI_cases m.nodes id with ⟨j, hj, hj1, hj2⟩ | ⟨hj1, hj2⟩
      · have HAT := Lib.hid hj2
        have g4 : decide ((j : Int) < 0) = false := decide_eq_false (by omega)
        have E := Lib.hid (show EE = 0 from HEE.out.symm.trans (setE_ok HCM.out HW.out (fun h => h) (by rw [hj2]; omega)))
        clear hj2
        go_enter Try.func42, Try.ntmps42
        go_wp2_with fail
        (try rw [HU0.out])
        refine (HC2.out).mono ?_
        rintro _ u1 ⟨rfl, hb⟩
        have HB1 := Lib.hid (HB0.out.trans (hb.mono HB0.out.size))
        have HM1 := Lib.hid (HM0.out.below hb HM0.out.lt)
        have HR1 := Lib.hid (HR0.out.below hb HR0.out.lt)
        clear hb
        go_wp2_with fail
        refine (sword_is hns HW.out u1).mono ?_
        rintro _ u2 ⟨rfl, hb⟩
        have HB2 := Lib.hid (HB1.out.trans (hb.mono HB1.out.size))
        have HM2 := Lib.hid (HM1.out.below hb HM1.out.lt)
        have HR2 := Lib.hid (HR1.out.below hb HR1.out.lt)
        clear hb
        have m0 := HM2.out.cell 0; have m1 := HM2.out.cell 1
        have hmlt := HM2.out.lt
        simp at m0 m1
        go_wp2_with fail
        refine (int_is HAT.out (at_any A c m.next id m.nodes u2 F (fun b hb => Nat.lt_of_lt_of_le (hF b hb) HB2.out.size) (HH.out.keep ENode.stays (Keep.below HB2.out hF) (fun _ h => h)) HS.out.1 (by omega))).mono ?_
        rintro _ u3 ⟨rfl, hb⟩
        have HB3 := Lib.hid (HB2.out.trans (hb.mono HB2.out.size))
        have HM3 := Lib.hid (HM2.out.below hb HM2.out.lt)
        have HR3 := Lib.hid (HR2.out.below hb HR2.out.lt)
        clear hb
        clear m0 m1 hmlt
        have m0 := HM3.out.cell 0; have m1 := HM3.out.cell 1
        have hmlt := HM3.out.lt
        simp at m0 m1
        go_wp2_with fail
        refine (twinR_any A c m u3 F (fun b hb => Nat.lt_of_lt_of_le (hF b hb) HB3.out.size) (HH.out.keep ENode.stays (Keep.below HB3.out hF) (fun _ h => h)) HZ'.out (by omega)).mono ?_
        rintro _ u4 ⟨vt, rfl, l, hown, hlm, hb⟩
        have HB4 := Lib.hid (HB3.out.trans (hb.mono HB3.out.size))
        have HM4 := Lib.hid (HM3.out.below hb HM3.out.lt)
        have HR4 := Lib.hid (HR3.out.below hb HR3.out.lt)
        have HSZ := Lib.hid HB3.out.size
        have hll : l.length = m.nodes.length := by rw [← hlm]; simp
        have hjl : j < l.length := by omega
        obtain ⟨g, cv, rfl, hnc, hcm, hgb, hgw⟩ := own_some hown.row (by omega)
        obtain ⟨Y, hY⟩ : ∃ Y, l[j] = Y := ⟨_, rfl⟩
        have hYn : m.nodes[j] = Y.n := by
          have h1 : (l.map LN.n)[j]? = some Y.n := by rw [List.getElem?_map, List.getElem?_eq_getElem hjl, hY]; rfl
          rw [hlm, List.getElem?_eq_getElem hj] at h1
          injection h1
        rw [hll] at hown hnc ⊢
        have HO := Lib.hid hown; have HLM := Lib.hid hlm
        have HY := Lib.hid (show ∃ h : j < l.length, l[j]'h = Y from ⟨hjl, hY⟩)
        have HYN := Lib.hid (show ∃ h : j < m.nodes.length, m.nodes[j]'h = Y.n from ⟨hj, hYn⟩)
        have HJ1 := Lib.hid (show ∃ h : j < m.nodes.length, (m.nodes[j]'h).id = id from ⟨hj, hj1⟩)
        have HSN : Hid (SrtN AProp.name Y.n.props) := Lib.hid (by rw [← hYn]; exact props_srt (HCM.out.2.1 _ (List.getElem_mem hj)).2.2.2.2.1)
        have hLN : Y.n.props.length ≤ 4398046510976 := by
          have := HZ'.out m.nodes[j] (List.getElem_mem hj)
          rw [hYn] at this
          unfold LensOK at this
          omega
        have HRS : Hid (w.heap.size + 1 < u3.heap.size) := Lib.hid HR3.out.lt
        obtain ⟨b, off, Sp, cp, Sk, ck, Sr, cr, rfl, hbF, _, _, _, _, d4, _, d6, ⟨_, hp2, hp3⟩, _, ⟨_, hr2, hr3⟩⟩ := node_at HH.out hj
        rw [hYn] at d4 hp3
        have HROW := Lib.hid hp3
        have HD := Lib.hid d4
        unfold maxLen at hp2 hr2
        have hbw := hF b hbF
        clear hb hown hlm hll hjl hY hYn hj1 m0 m1 hmlt d4 d6 hp3 hr3
        have m0 := HM4.out.cell 0; have m1 := HM4.out.cell 1
        have hmlt := HM4.out.lt
        simp at m0 m1
        go_upto_region 8 with fail
        obtain ⟨p, hp⟩ : ∃ p, u4.heap.size = p := ⟨_, rfl⟩
        obtain ⟨x1, hx1⟩ : ∃ z : World, u4.alloc (.cells #[.int .i64 m.next, .slice (some ⟨g, 0, none⟩) m.nodes.length cv] 24) = z := ⟨_, rfl⟩
        have HX : Hid (Below u4.heap.size u4 x1) := Lib.hid (by rw [← hx1]; exact (Below.refl _ _).alloc (Nat.le_refl _) _)
        have HP1 : Hid (Blk x1 p 24 #[.int .i64 m.next, .slice (some ⟨g, 0, none⟩) m.nodes.length cv]) := Lib.hid (by rw [← hx1, ← hp]; exact Blk.new _ _ _)
        have HO1 := Lib.hid (HO.out.below HX.out)
        have HB1x := Lib.hid (HB4.out.trans (HX.out.mono HB4.out.size))
        have HR1x := Lib.hid (HR4.out.below HX.out HR4.out.lt)
        have HM1x := Lib.hid (HM4.out.below HX.out HM4.out.lt)
        have hgp : g < p := by omega
        have hpw : w.heap.size + 1 < p := by have := HRS.out; omega
        (try rw [hx1])
        (try rw [hp])
        clear hx1 hp m0 m1 hmlt HO HX hgw
        have m0 := HM1x.out.cell 0; have m1 := HM1x.out.cell 1
        have hmlt := HM1x.out.lt
        simp at m0 m1
        go_wp2_with fail
        refine (int_is HAT.out (at_any (some ⟨b, off, none⟩) c m.next id m.nodes x1 F (fun b hb => Nat.lt_of_lt_of_le (hF b hb) HB1x.out.size) (HH.out.keep ENode.stays (Keep.below HB1x.out hF) (fun _ h => h)) HS.out.1 (by omega))).mono ?_
        rintro _ xs ⟨rfl, hb⟩
        have HBs := Lib.hid (HB1x.out.trans (hb.mono HB1x.out.size))
        have HMs := Lib.hid (HM1x.out.below hb HM1x.out.lt)
        have HRs := Lib.hid (HR1x.out.below hb HR1x.out.lt)
        have HPs := Lib.hid (HP1.out.below hb HP1.out.lt)
        have HOs := Lib.hid (HO1.out.below hb)
        have hus : u3.heap.size ≤ xs.heap.size := by have := HOs.out.row.lt g rfl; omega
        clear hb m0 m1 hmlt HB1x HM1x HR1x HP1 HO1
        have hj0 : (0 : Int) ≤ j := by omega
        have hj1 : (j : Int) < m.nodes.length := by omega
        have HST : Hid (xs.ownsRow xs.heap.size 85 2 (.slice none 0 0) (keepN AProp.name (Y.n.props.take 0) nm).length ((keepN AProp.name (Y.n.props.take 0) nm).flatMap propCells)) := Lib.hid (by rw [List.take_zero]; exact World.ownsRow_nil _ _ _ _)
        have HBst := Lib.hid (Below.refl xs.heap.size xs)
        go_wp2_with fail
        go_loopg [10, 11] Y.n.props.length (fun gg s10 s11 wx => ∃ (i : Nat) (v : Value), s11 = .int .i64 i ∧ s10 = v ∧ gg = Y.n.props.length - i ∧ i ≤ Y.n.props.length ∧ Hid (Below xs.heap.size xs wx) ∧ Hid (wx.ownsRow xs.heap.size 85 2 v (keepN AProp.name (Y.n.props.take i) nm).length ((keepN AProp.name (Y.n.props.take i) nm).flatMap propCells)))
        case atStart => exact ⟨0, _, rfl, rfl, rfl, Nat.zero_le _, HBst, HST⟩
        case round =>
          clear HBst HST
          obtain ⟨i, v, rfl, rfl, rfl, hi, HBX, HOW⟩ := hrel
          have hi0 : (0 : Int) ≤ i := by omega
          have HBW : Hid (Below w.heap.size w wr) := Lib.hid (HBs.out.trans (HBX.out.mono HBs.out.size))
          have HMw := Lib.hid (HMs.out.below HBX.out HMs.out.lt)
          have m0 := HMw.out.cell 0; have m1 := HMw.out.cell 1
          have hmlt := HMw.out.lt
          simp at m0 m1
          have d4 : wr.cell? ⟨b, off + j * 7 + 4, none⟩ = some (.slice Sp Y.n.props.length cp) := by rw [World.cell?_of_block (w := w) (a := ⟨b, off + j * 7 + 4, none⟩) (HBW.out.block b hbw)]; exact HD.out
          by_cases hlt : i < Y.n.props.length
          · have hlt' : (i : Int) < Y.n.props.length := by omega
            obtain ⟨bp, offp, rfl, hbF', e0, e1⟩ := prop_at (RowOf.keep EProp.stays (Keep.below HBW.out hF) (F' := F) (fun _ h => h) HROW.out) hlt
            obtain ⟨x, hx⟩ : ∃ x, Y.n.props[i] = x := ⟨_, rfl⟩
            rw [hx] at e0 e1
            have HXI := Lib.hid (show ∃ h : i < Y.n.props.length, Y.n.props[i]'h = x from ⟨hlt, hx⟩)
            have hbpw := hF bp hbF'
            clear hx
            have HKT := Lib.hid (keepN_take (f := AProp.name) (t := nm) hlt)
            obtain ⟨K, hK⟩ : ∃ K, keepN AProp.name (Y.n.props.take i) nm = K := ⟨_, rfl⟩
            have hKl : K.length ≤ Y.n.props.length := by rw [← hK]; exact keepN_le i
            rw [hK] at HOW HKT
            obtain ⟨A', c', hv⟩ := own_shape HOW.out
            subst hv
            clear hK
            cases he : eqT x.name nm
            · have heq : (x.name.toList == nm.toList) = false := he
              have HKE : Hid (keepN AProp.name (Y.n.props.take (i + 1)) nm = K ++ [x]) := Lib.hid (by rw [HKT.out, HXI.out.2, he]; rfl)
              clear he
              have HQ6 : Hid (Blk (wr.alloc (.cells #[.string x.name, .string x.value] 85)) wr.heap.size 85 #[.string x.name, .string x.value]) := Lib.hid (Blk.new _ _ _)
              have HOa6 := Lib.hid (HOW.out.alloc (.cells #[.string x.name, .string x.value] 85))
              have HBa6 := Lib.hid (HBX.out.alloc HBX.out.size (.cells #[.string x.name, .string x.value] 85))
              have hsz6 := HBX.out.size
              go_wp2_with (at_builtin; refine wpList_append_from _ rfl (.tmp 53) (.tmp 63) 34 rfl xs.heap.size 85 Try.underlying34 prop_info rfl (by omega) (.slice A' K.length c') K.length (K.flatMap propCells) (by first | rfl | simp [Act.eval]) HOa6.out (some ⟨wr.heap.size, 0, none⟩) 1 1 (propCells x) (by first | rfl | simp [Act.eval]) rfl (by simp) (fun ad e => by cases e; exact news_cells HQ6.out) (propCells_one x) (by unfold maxLen; omega) (by omega) (by simp; omega) ?_)
              intro A6 c6 w6 own6 hg6 hat6
              have HBn6 : Hid (Below xs.heap.size xs w6) := Lib.hid (HBa6.out.grown hg6 (by simp; omega) (fun b e => (HOa6.out.lt b e).1))
              have HOn6 := Lib.hid own6
              have HOK : Hid (w6.ownsRow xs.heap.size 85 2 (.slice A6 (K.length + 1) c6) (keepN AProp.name (Y.n.props.take (i + 1)) nm).length ((keepN AProp.name (Y.n.props.take (i + 1)) nm).flatMap propCells)) := Lib.hid (by
                rw [HKE.out, show (K ++ [x]).length = K.length + 1 by simp, show (K ++ [x]).flatMap propCells = K.flatMap propCells ++ propCells x by simp]; exact HOn6.out)
              clear own6 hg6 hat6
              go_wp2
              go_roundg (Y.n.props.length - (i + 1))
              case measure => omega
              case rel => exact ⟨i + 1, _, by go_num, rfl, rfl, by omega, HBn6, HOK⟩
            · have heq : (x.name.toList == nm.toList) = true := he
              have HKE : Hid (keepN AProp.name (Y.n.props.take (i + 1)) nm = K) := Lib.hid (by rw [HKT.out, HXI.out.2, he]; simp)
              have HOK : Hid (wr.ownsRow xs.heap.size 85 2 (.slice A' K.length c') (keepN AProp.name (Y.n.props.take (i + 1)) nm).length ((keepN AProp.name (Y.n.props.take (i + 1)) nm).flatMap propCells)) := Lib.hid (by rw [HKE.out]; exact HOW.out)
              clear he
              go_wp2
              go_roundg (Y.n.props.length - (i + 1))
              case measure => omega
              case rel => exact ⟨i + 1, _, by go_num, rfl, rfl, by omega, HBX, HOK⟩
          · have hil : i = Y.n.props.length := by omega
            subst hil
            have hlt' : ¬ ((Y.n.props.length : Nat) : Int) < Y.n.props.length := by omega
            rw [List.take_length] at HOW
            obtain ⟨hjl, hY⟩ := HY.out
            have HOW4 := Lib.hid (HOs.out.below HBX.out)
            have c4 := HOW4.out.cell (i := j) (j := 4) hjl (by omega)
            rw [hY] at c4
            simp [LN.cells, nodeCellsA] at c4
            have z4 := HOW4.out.frozen (j * 7 + 4)
            have HPw := Lib.hid (HPs.out.below HBX.out HPs.out.lt)
            have HRw := Lib.hid (HRs.out.below HBX.out HRs.out.lt)
            have p0 := HPw.out.cell 0; have p1 := HPw.out.cell 1
            have hplt := HPw.out.lt
            simp at p0 p1
            obtain ⟨Lv, hLv⟩ : ∃ Lv, keepN AProp.name Y.n.props nm = Lv := ⟨_, rfl⟩
            have HLV := Lib.hid hLv
            rw [hLv] at HOW
            clear hLv
            obtain ⟨Az, cz, hvz⟩ := own_shape HOW.out
            (try subst hvz)
            obtain ⟨V, hV⟩ : ∃ V, Value.slice Az Lv.length cz = V := ⟨_, rfl⟩
            rw [hV] at HOW
            have HV := Lib.hid hV
            clear hV
            have HO4 := Lib.hid (HOs.out.setProps hjl hY Lv V (grown_of HBX.out _) (.inr (own_new HOW.out)) (own_weaken HOW.out hus))
            have HBz : Hid (Below w.heap.size w wr) := Lib.hid (HBs.out.trans (HBX.out.mono HBs.out.size))
            have HB4 := Lib.hid (HBz.out.setCell (p := ⟨g, j * 7 + 4, none⟩) (by have := HSZ.out; show w.heap.size ≤ g; omega) V)
            have HP4 := Lib.hid (HPw.out.far (p := ⟨g, j * 7 + 4, none⟩) (by show p ≠ g; omega) V)
            have HR4 := Lib.hid (HRw.out.far (p := ⟨g, j * 7 + 4, none⟩) (by have := HRS.out; show w.heap.size + 1 ≠ g; omega) V)
            rw [← HV.out] at HO4 HB4 HP4 HR4
            have HWE : Hid (∃ z, z = wr.setCell ⟨g, j * 7 + 4, none⟩ (.slice Az Lv.length cz)) := Lib.hid ⟨_, rfl⟩
            have hgz : g < wr.heap.size := by have := HPw.out.lt; omega
            clear hY
            go_upto_region 16 with fail
            obtain ⟨x4, hx4⟩ := HWE.out
            rw [← hx4] at HO4 HB4 HP4 HR4
            (try rw [← hx4])
            clear hx4 HWE c4 z4 p0 p1 hplt
            have p0 := HP4.out.cell 0; have p1 := HP4.out.cell 1
            have hplt := HP4.out.lt
            simp at p0 p1
            have t0 := HR4.out.frozen 0; have t1 := HR4.out.frozen 1
            have r0 := HR4.out.cell 0; have r1 := HR4.out.cell 1
            have hrlt := HR4.out.lt
            simp at r0 r1
            go_wp2_with fail
            have hyS := (HR4.out.set_ 0 (.int .i64 m.next)).set_ 1 (.slice (some ⟨g, 0, none⟩) m.nodes.length cv)
            have f0 := hyS.cell 0; have f1 := hyS.cell 1
            simp at f0 f1
            have HBWz := Lib.hid ((HB4.out.setCell (p := ⟨w.heap.size + 1, 0, none⟩) (by show w.heap.size ≤ w.heap.size + 1; omega) (.int .i64 m.next)).setCell (p := ⟨w.heap.size + 1, 1, none⟩) (by show w.heap.size ≤ w.heap.size + 1; omega) (.slice (some ⟨g, 0, none⟩) m.nodes.length cv))
            refine bodyPost_ret (v := .tuple #[.agg #[.int .i64 m.next, .slice (some ⟨g, 0, none⟩) m.nodes.length cv], .int .i64 0]) (by simp [results, Try.results42, go_sem, f0, f1]) rfl ⟨⟨_, rfl, Or.inr ⟨E.out, _, _, rfl, (HO4.out.keep (fun b h1 _ => ?_)).weaken HSZ.out, j, HJ1.out.1, HJ1.out.2, ?_⟩⟩, HBWz.out⟩
            · have := HRS.out
              exact (Below.heap_setCell _ _ _ _ (by show b ≠ w.heap.size + 1; omega)).trans (Below.heap_setCell _ _ _ _ (by show b ≠ w.heap.size + 1; omega))
            · rw [List.map_set, HLM.out, HYN.out.2, ← HLV.out]; rfl
      · have HAT := Lib.hid hj2
        have E := Lib.hid (show EE = 20 from HEE.out.symm.trans (setE_node HCM.out HW.out (fun h => h) (by rw [hj2]; omega)))
        clear hj1 hj2
        go_enter Try.func42, Try.ntmps42
        go_wp2_with fail
        (try rw [HU0.out])
        refine (HC2.out).mono ?_
        rintro _ u1 ⟨rfl, hb⟩
        have HB1 := Lib.hid (HB0.out.trans (hb.mono HB0.out.size))
        have HM1 := Lib.hid (HM0.out.below hb HM0.out.lt)
        have HR1 := Lib.hid (HR0.out.below hb HR0.out.lt)
        clear hb
        go_wp2_with fail
        refine (sword_is hns HW.out u1).mono ?_
        rintro _ u2 ⟨rfl, hb⟩
        have HB2 := Lib.hid (HB1.out.trans (hb.mono HB1.out.size))
        have HM2 := Lib.hid (HM1.out.below hb HM1.out.lt)
        have HR2 := Lib.hid (HR1.out.below hb HR1.out.lt)
        clear hb
        have m0 := HM2.out.cell 0; have m1 := HM2.out.cell 1
        have hmlt := HM2.out.lt
        simp at m0 m1
        go_wp2_with fail
        refine (int_is HAT.out (at_any A c m.next id m.nodes u2 F (fun b hb => Nat.lt_of_lt_of_le (hF b hb) HB2.out.size) (HH.out.keep ENode.stays (Keep.below HB2.out hF) (fun _ h => h)) HS.out.1 (by omega))).mono ?_
        rintro _ u3 ⟨rfl, hb⟩
        have HB3 := Lib.hid (HB2.out.trans (hb.mono HB2.out.size))
        have HM3 := Lib.hid (HM2.out.below hb HM2.out.lt)
        have HR3 := Lib.hid (HR2.out.below hb HR2.out.lt)
        clear hb
        clear m0 m1 hmlt
        have t0 := HR3.out.frozen 0; have t1 := HR3.out.frozen 1
        have r0 := HR3.out.cell 0; have r1 := HR3.out.cell 1
        have hrlt := HR3.out.lt
        simp at r0 r1
        go_wp2_with fail
        have hyS := (HR3.out.set_ 0 (.int .i64 0)).set_ 1 (.slice none 0 0)
        have f0 := hyS.cell 0; have f1 := hyS.cell 1
        simp at f0 f1
        have HBW := Lib.hid ((HB3.out.setCell (p := ⟨w.heap.size + 1, 0, none⟩) (by show w.heap.size ≤ w.heap.size + 1; omega) (.int .i64 0)).setCell (p := ⟨w.heap.size + 1, 1, none⟩) (by show w.heap.size ≤ w.heap.size + 1; omega) (.slice none 0 0))
        exact bodyPost_ret (v := .tuple #[.agg #[.int .i64 0, .slice none 0 0], .int .i64 (20)]) (by simp [results, Try.results42, go_sem, f0, f1]) rfl ⟨⟨_, rfl, Or.inl ⟨by rw [E.out]; decide, by rw [E.out]⟩⟩, HBW.out⟩
  · have HC2 := Lib.hid (res_is (rightM_is.2 hc) HC.out)
    have E := Lib.hid (show EE = 29 from HEE.out.symm.trans (setE_check hc))
    clear hc HC
    go_enter Try.func42, Try.ntmps42
    go_wp2_with fail
    (try rw [HU0.out])
    refine (HC2.out).mono ?_
    rintro _ u1 ⟨rfl, hb⟩
    have HB1 := Lib.hid (HB0.out.trans (hb.mono HB0.out.size))
    have HM1 := Lib.hid (HM0.out.below hb HM0.out.lt)
    have HR1 := Lib.hid (HR0.out.below hb HR0.out.lt)
    clear hb
    have t0 := HR1.out.frozen 0; have t1 := HR1.out.frozen 1
    have r0 := HR1.out.cell 0; have r1 := HR1.out.cell 1
    have hrlt := HR1.out.lt
    simp at r0 r1
    go_wp2_with fail
    have hyS := (HR1.out.set_ 0 (.int .i64 0)).set_ 1 (.slice none 0 0)
    have f0 := hyS.cell 0; have f1 := hyS.cell 1
    simp at f0 f1
    have HBW := Lib.hid ((HB1.out.setCell (p := ⟨w.heap.size + 1, 0, none⟩) (by show w.heap.size ≤ w.heap.size + 1; omega) (.int .i64 0)).setCell (p := ⟨w.heap.size + 1, 1, none⟩) (by show w.heap.size ≤ w.heap.size + 1; omega) (.slice none 0 0))
    exact bodyPost_ret (v := .tuple #[.agg #[.int .i64 0, .slice none 0 0], .int .i64 (29)]) (by simp [results, Try.results42, go_sem, f0, f1]) rfl ⟨⟨_, rfl, Or.inl ⟨by rw [E.out]; decide, by rw [E.out]⟩⟩, HBW.out⟩

set_option maxRecDepth 100000 in
set_option maxHeartbeats 4000000 in
theorem looseR_any (A : Option Addr) (c : Nat) (m : AModel) (w : World) (F : Nat → Prop) (hF : ∀ b, F b → b < w.heap.size) (h : RowOf 7 ENode w F A m.nodes) (hz : ∀ x ∈ m.nodes, NodeOK x) (hz' : ∀ x ∈ m.nodes, LensOK x) (hl : m.nodes.length ≤ 9223372036854775807) (id : Int) (hid : InR id) (nm : ByteArray) (hns : nm.size ≤ 9223372036854775807)  :
    Calls Try.prog 46 #[.agg #[.int .i64 m.next, .slice A m.nodes.length c], .int .i64 id, .string nm] w fun e w' => (∃ v, e = .returned v ∧ SetAs w' w.heap.size m id (setE m nm False (atI m.nodes id < 0)) (looseN nm) v) ∧ Below w.heap.size w w' := by
  obtain ⟨EE, hEE⟩ : ∃ EE, setE m nm False (atI m.nodes id < 0) = EE := ⟨_, rfl⟩
  rw [hEE]
  have HEE := Lib.hid hEE
  clear hEE
  have HBA : Hid (Below w.heap.size w ((w.alloc (.cells #[.int .i64 m.next, .slice A m.nodes.length c] 24)).alloc (.cells #[.int .i64 0, .slice none 0 0] 24))) := Lib.hid (((Below.refl w.heap.size w).alloc (Nat.le_refl _) _).alloc (by simp) _)
  have HC := Lib.hid (right_any A c m _ F (fun b hb => Nat.lt_of_lt_of_le (hF b hb) HBA.out.size) (h.keep ENode.stays (Keep.below HBA.out hF) (fun _ h => h)) (fun x hx => (hz x hx).1) hl)
  have HM0 : Hid (Blk ((w.alloc (.cells #[.int .i64 m.next, .slice A m.nodes.length c] 24)).alloc (.cells #[.int .i64 0, .slice none 0 0] 24)) w.heap.size 24 #[.int .i64 m.next, .slice A m.nodes.length c]) := Lib.hid ((Blk.new w _ _).alloc _)
  have HR0 : Hid (Blk ((w.alloc (.cells #[.int .i64 m.next, .slice A m.nodes.length c] 24)).alloc (.cells #[.int .i64 0, .slice none 0 0] 24)) (w.heap.size + 1) 24 #[.int .i64 0, .slice none 0 0]) := Lib.hid (Blk.new' (by simp))
  have HH := Lib.hid h; have HZ := Lib.hid hz; have HZ' := Lib.hid hz'
  clear h hz hz'
  obtain ⟨u0, hu0⟩ : ∃ u : World, (w.alloc (.cells #[.int .i64 m.next, .slice A m.nodes.length c] 24)).alloc (.cells #[.int .i64 0, .slice none 0 0] 24) = u := ⟨_, rfl⟩
  rw [hu0] at HBA HC HM0 HR0
  have HU0 := Lib.hid hu0
  clear hu0
  have HB0 := HBA
  by_cases hc : CheckM m
  · have HC2 := Lib.hid (res_is (rightM_is.1 hc) HC.out)
    have HCM := Lib.hid hc
    have HS := Lib.hid hc.1.srtB
    have hl4 : m.nodes.length ≤ 4096 := hc.1.1.2.2
    have hnx : 1 ≤ m.next ∧ m.next ≤ 1048577 := ⟨hc.1.1.1, hc.1.1.2.1⟩
    clear hc HC
    rcases hwc : wordA nm with _ | _
    · have E := Lib.hid (show EE = 2 from HEE.out.symm.trans (setE_word HCM.out hwc))
      have HW := Lib.hid hwc
      clear hwc
      go_enter Try.func46, Try.ntmps46
      go_wp2_with fail
      (try rw [HU0.out])
      refine (HC2.out).mono ?_
      rintro _ u1 ⟨rfl, hb⟩
      have HB1 := Lib.hid (HB0.out.trans (hb.mono HB0.out.size))
      have HM1 := Lib.hid (HM0.out.below hb HM0.out.lt)
      have HR1 := Lib.hid (HR0.out.below hb HR0.out.lt)
      clear hb
      go_wp2_with fail
      refine (sword_is hns HW.out u1).mono ?_
      rintro _ u2 ⟨rfl, hb⟩
      have HB2 := Lib.hid (HB1.out.trans (hb.mono HB1.out.size))
      have HM2 := Lib.hid (HM1.out.below hb HM1.out.lt)
      have HR2 := Lib.hid (HR1.out.below hb HR1.out.lt)
      clear hb
      have t0 := HR2.out.frozen 0; have t1 := HR2.out.frozen 1
      have r0 := HR2.out.cell 0; have r1 := HR2.out.cell 1
      have hrlt := HR2.out.lt
      simp at r0 r1
      go_wp2_with fail
      have hyS := (HR2.out.set_ 0 (.int .i64 0)).set_ 1 (.slice none 0 0)
      have f0 := hyS.cell 0; have f1 := hyS.cell 1
      simp at f0 f1
      have HBW := Lib.hid ((HB2.out.setCell (p := ⟨w.heap.size + 1, 0, none⟩) (by show w.heap.size ≤ w.heap.size + 1; omega) (.int .i64 0)).setCell (p := ⟨w.heap.size + 1, 1, none⟩) (by show w.heap.size ≤ w.heap.size + 1; omega) (.slice none 0 0))
      exact bodyPost_ret (v := .tuple #[.agg #[.int .i64 0, .slice none 0 0], .int .i64 (2)]) (by simp [results, Try.results46, go_sem, f0, f1]) rfl ⟨⟨_, rfl, Or.inl ⟨by rw [E.out]; decide, by rw [E.out]⟩⟩, HBW.out⟩
    · have HW := Lib.hid hwc
      clear hwc
      rcases atI_cases m.nodes id with ⟨j, hj, hj1, hj2⟩ | ⟨hj1, hj2⟩
      · have HAT := Lib.hid hj2
        have g4 : decide ((j : Int) < 0) = false := decide_eq_false (by omega)
        have E := Lib.hid (show EE = 0 from HEE.out.symm.trans (setE_ok HCM.out HW.out (fun h => h) (by rw [hj2]; omega)))
        clear hj2
        go_enter Try.func46, Try.ntmps46
        go_wp2_with fail
        (try rw [HU0.out])
        refine (HC2.out).mono ?_
        rintro _ u1 ⟨rfl, hb⟩
        have HB1 := Lib.hid (HB0.out.trans (hb.mono HB0.out.size))
        have HM1 := Lib.hid (HM0.out.below hb HM0.out.lt)
        have HR1 := Lib.hid (HR0.out.below hb HR0.out.lt)
        clear hb
        go_wp2_with fail
        refine (sword_is hns HW.out u1).mono ?_
        rintro _ u2 ⟨rfl, hb⟩
        have HB2 := Lib.hid (HB1.out.trans (hb.mono HB1.out.size))
        have HM2 := Lib.hid (HM1.out.below hb HM1.out.lt)
        have HR2 := Lib.hid (HR1.out.below hb HR1.out.lt)
        clear hb
        have m0 := HM2.out.cell 0; have m1 := HM2.out.cell 1
        have hmlt := HM2.out.lt
        simp at m0 m1
        go_wp2_with fail
        refine (int_is HAT.out (at_any A c m.next id m.nodes u2 F (fun b hb => Nat.lt_of_lt_of_le (hF b hb) HB2.out.size) (HH.out.keep ENode.stays (Keep.below HB2.out hF) (fun _ h => h)) HS.out.1 (by omega))).mono ?_
        rintro _ u3 ⟨rfl, hb⟩
        have HB3 := Lib.hid (HB2.out.trans (hb.mono HB2.out.size))
        have HM3 := Lib.hid (HM2.out.below hb HM2.out.lt)
        have HR3 := Lib.hid (HR2.out.below hb HR2.out.lt)
        clear hb
        clear m0 m1 hmlt
        have m0 := HM3.out.cell 0; have m1 := HM3.out.cell 1
        have hmlt := HM3.out.lt
        simp at m0 m1
        go_wp2_with fail
        refine (twinR_any A c m u3 F (fun b hb => Nat.lt_of_lt_of_le (hF b hb) HB3.out.size) (HH.out.keep ENode.stays (Keep.below HB3.out hF) (fun _ h => h)) HZ'.out (by omega)).mono ?_
        rintro _ u4 ⟨vt, rfl, l, hown, hlm, hb⟩
        have HB4 := Lib.hid (HB3.out.trans (hb.mono HB3.out.size))
        have HM4 := Lib.hid (HM3.out.below hb HM3.out.lt)
        have HR4 := Lib.hid (HR3.out.below hb HR3.out.lt)
        have HSZ := Lib.hid HB3.out.size
        have hll : l.length = m.nodes.length := by rw [← hlm]; simp
        have hjl : j < l.length := by omega
        obtain ⟨g, cv, rfl, hnc, hcm, hgb, hgw⟩ := own_some hown.row (by omega)
        obtain ⟨Y, hY⟩ : ∃ Y, l[j] = Y := ⟨_, rfl⟩
        have hYn : m.nodes[j] = Y.n := by
          have h1 : (l.map LN.n)[j]? = some Y.n := by rw [List.getElem?_map, List.getElem?_eq_getElem hjl, hY]; rfl
          rw [hlm, List.getElem?_eq_getElem hj] at h1
          injection h1
        rw [hll] at hown hnc ⊢
        have HO := Lib.hid hown; have HLM := Lib.hid hlm
        have HY := Lib.hid (show ∃ h : j < l.length, l[j]'h = Y from ⟨hjl, hY⟩)
        have HYN := Lib.hid (show ∃ h : j < m.nodes.length, m.nodes[j]'h = Y.n from ⟨hj, hYn⟩)
        have HJ1 := Lib.hid (show ∃ h : j < m.nodes.length, (m.nodes[j]'h).id = id from ⟨hj, hj1⟩)
        have HSN : Hid (SrtN ARef.role Y.n.refs) := Lib.hid (by rw [← hYn]; exact refs_srt (HCM.out.2.1 _ (List.getElem_mem hj)).2.2.2.2.2)
        have hLN : Y.n.refs.length ≤ 5864062014634 := by
          have := HZ'.out m.nodes[j] (List.getElem_mem hj)
          rw [hYn] at this
          unfold LensOK at this
          omega
        have HRS : Hid (w.heap.size + 1 < u3.heap.size) := Lib.hid HR3.out.lt
        obtain ⟨b, off, Sp, cp, Sk, ck, Sr, cr, rfl, hbF, _, _, _, _, d4, _, d6, ⟨_, hp2, hp3⟩, _, ⟨_, hr2, hr3⟩⟩ := node_at HH.out hj
        rw [hYn] at d6 hr3
        have HROW := Lib.hid hr3
        have HD := Lib.hid d6
        unfold maxLen at hp2 hr2
        have hbw := hF b hbF
        clear hb hown hlm hll hjl hY hYn hj1 m0 m1 hmlt d4 d6 hp3 hr3
        have m0 := HM4.out.cell 0; have m1 := HM4.out.cell 1
        have hmlt := HM4.out.lt
        simp at m0 m1
        go_upto_region 8 with fail
        obtain ⟨p, hp⟩ : ∃ p, u4.heap.size = p := ⟨_, rfl⟩
        obtain ⟨x1, hx1⟩ : ∃ z : World, u4.alloc (.cells #[.int .i64 m.next, .slice (some ⟨g, 0, none⟩) m.nodes.length cv] 24) = z := ⟨_, rfl⟩
        have HX : Hid (Below u4.heap.size u4 x1) := Lib.hid (by rw [← hx1]; exact (Below.refl _ _).alloc (Nat.le_refl _) _)
        have HP1 : Hid (Blk x1 p 24 #[.int .i64 m.next, .slice (some ⟨g, 0, none⟩) m.nodes.length cv]) := Lib.hid (by rw [← hx1, ← hp]; exact Blk.new _ _ _)
        have HO1 := Lib.hid (HO.out.below HX.out)
        have HB1x := Lib.hid (HB4.out.trans (HX.out.mono HB4.out.size))
        have HR1x := Lib.hid (HR4.out.below HX.out HR4.out.lt)
        have HM1x := Lib.hid (HM4.out.below HX.out HM4.out.lt)
        have hgp : g < p := by omega
        have hpw : w.heap.size + 1 < p := by have := HRS.out; omega
        (try rw [hx1])
        (try rw [hp])
        clear hx1 hp m0 m1 hmlt HO HX hgw
        have m0 := HM1x.out.cell 0; have m1 := HM1x.out.cell 1
        have hmlt := HM1x.out.lt
        simp at m0 m1
        go_wp2_with fail
        refine (int_is HAT.out (at_any (some ⟨b, off, none⟩) c m.next id m.nodes x1 F (fun b hb => Nat.lt_of_lt_of_le (hF b hb) HB1x.out.size) (HH.out.keep ENode.stays (Keep.below HB1x.out hF) (fun _ h => h)) HS.out.1 (by omega))).mono ?_
        rintro _ xs ⟨rfl, hb⟩
        have HBs := Lib.hid (HB1x.out.trans (hb.mono HB1x.out.size))
        have HMs := Lib.hid (HM1x.out.below hb HM1x.out.lt)
        have HRs := Lib.hid (HR1x.out.below hb HR1x.out.lt)
        have HPs := Lib.hid (HP1.out.below hb HP1.out.lt)
        have HOs := Lib.hid (HO1.out.below hb)
        have hus : u3.heap.size ≤ xs.heap.size := by have := HOs.out.row.lt g rfl; omega
        clear hb m0 m1 hmlt HB1x HM1x HR1x HP1 HO1
        have hj0 : (0 : Int) ≤ j := by omega
        have hj1 : (j : Int) < m.nodes.length := by omega
        have HST : Hid (xs.ownsRow xs.heap.size 82 2 (.slice none 0 0) (keepN ARef.role (Y.n.refs.take 0) nm).length ((keepN ARef.role (Y.n.refs.take 0) nm).flatMap refCells)) := Lib.hid (by rw [List.take_zero]; exact World.ownsRow_nil _ _ _ _)
        have HBst := Lib.hid (Below.refl xs.heap.size xs)
        go_wp2_with fail
        go_loopg [10, 11] Y.n.refs.length (fun gg s10 s11 wx => ∃ (i : Nat) (v : Value), s11 = .int .i64 i ∧ s10 = v ∧ gg = Y.n.refs.length - i ∧ i ≤ Y.n.refs.length ∧ Hid (Below xs.heap.size xs wx) ∧ Hid (wx.ownsRow xs.heap.size 82 2 v (keepN ARef.role (Y.n.refs.take i) nm).length ((keepN ARef.role (Y.n.refs.take i) nm).flatMap refCells)))
        case atStart => exact ⟨0, _, rfl, rfl, rfl, Nat.zero_le _, HBst, HST⟩
        case round =>
          clear HBst HST
          obtain ⟨i, v, rfl, rfl, rfl, hi, HBX, HOW⟩ := hrel
          have hi0 : (0 : Int) ≤ i := by omega
          have HBW : Hid (Below w.heap.size w wr) := Lib.hid (HBs.out.trans (HBX.out.mono HBs.out.size))
          have HMw := Lib.hid (HMs.out.below HBX.out HMs.out.lt)
          have m0 := HMw.out.cell 0; have m1 := HMw.out.cell 1
          have hmlt := HMw.out.lt
          simp at m0 m1
          have d4 : wr.cell? ⟨b, off + j * 7 + 6, none⟩ = some (.slice Sr Y.n.refs.length cr) := by rw [World.cell?_of_block (w := w) (a := ⟨b, off + j * 7 + 6, none⟩) (HBW.out.block b hbw)]; exact HD.out
          by_cases hlt : i < Y.n.refs.length
          · have hlt' : (i : Int) < Y.n.refs.length := by omega
            obtain ⟨bp, offp, rfl, hbF', e0, e1⟩ := ref_at (RowOf.keep ERef.stays (Keep.below HBW.out hF) (F' := F) (fun _ h => h) HROW.out) hlt
            obtain ⟨x, hx⟩ : ∃ x, Y.n.refs[i] = x := ⟨_, rfl⟩
            rw [hx] at e0 e1
            have HXI := Lib.hid (show ∃ h : i < Y.n.refs.length, Y.n.refs[i]'h = x from ⟨hlt, hx⟩)
            have hbpw := hF bp hbF'
            clear hx
            have HKT := Lib.hid (keepN_take (f := ARef.role) (t := nm) hlt)
            obtain ⟨K, hK⟩ : ∃ K, keepN ARef.role (Y.n.refs.take i) nm = K := ⟨_, rfl⟩
            have hKl : K.length ≤ Y.n.refs.length := by rw [← hK]; exact keepN_le i
            rw [hK] at HOW HKT
            obtain ⟨A', c', hv⟩ := own_shape HOW.out
            subst hv
            clear hK
            cases he : eqT x.role nm
            · have heq : (x.role.toList == nm.toList) = false := he
              have HKE : Hid (keepN ARef.role (Y.n.refs.take (i + 1)) nm = K ++ [x]) := Lib.hid (by rw [HKT.out, HXI.out.2, he]; rfl)
              clear he
              have HQ6 : Hid (Blk (wr.alloc (.cells #[.string x.role, .int .i64 x.target] 82)) wr.heap.size 82 #[.string x.role, .int .i64 x.target]) := Lib.hid (Blk.new _ _ _)
              have HOa6 := Lib.hid (HOW.out.alloc (.cells #[.string x.role, .int .i64 x.target] 82))
              have HBa6 := Lib.hid (HBX.out.alloc HBX.out.size (.cells #[.string x.role, .int .i64 x.target] 82))
              have hsz6 := HBX.out.size
              go_wp2_with (at_builtin; refine wpList_append_from _ rfl (.tmp 53) (.tmp 63) 36 rfl xs.heap.size 82 Try.underlying36 ref_info rfl (by omega) (.slice A' K.length c') K.length (K.flatMap refCells) (by first | rfl | simp [Act.eval]) HOa6.out (some ⟨wr.heap.size, 0, none⟩) 1 1 (refCells x) (by first | rfl | simp [Act.eval]) rfl (by simp) (fun ad e => by cases e; exact news_cells HQ6.out) (refCells_one x) (by unfold maxLen; omega) (by omega) (by simp; omega) ?_)
              intro A6 c6 w6 own6 hg6 hat6
              have HBn6 : Hid (Below xs.heap.size xs w6) := Lib.hid (HBa6.out.grown hg6 (by simp; omega) (fun b e => (HOa6.out.lt b e).1))
              have HOn6 := Lib.hid own6
              have HOK : Hid (w6.ownsRow xs.heap.size 82 2 (.slice A6 (K.length + 1) c6) (keepN ARef.role (Y.n.refs.take (i + 1)) nm).length ((keepN ARef.role (Y.n.refs.take (i + 1)) nm).flatMap refCells)) := Lib.hid (by
                rw [HKE.out, show (K ++ [x]).length = K.length + 1 by simp, show (K ++ [x]).flatMap refCells = K.flatMap refCells ++ refCells x by simp]; exact HOn6.out)
              clear own6 hg6 hat6
              go_wp2
              go_roundg (Y.n.refs.length - (i + 1))
              case measure => omega
              case rel => exact ⟨i + 1, _, by go_num, rfl, rfl, by omega, HBn6, HOK⟩
            · have heq : (x.role.toList == nm.toList) = true := he
              have HKE : Hid (keepN ARef.role (Y.n.refs.take (i + 1)) nm = K) := Lib.hid (by rw [HKT.out, HXI.out.2, he]; simp)
              have HOK : Hid (wr.ownsRow xs.heap.size 82 2 (.slice A' K.length c') (keepN ARef.role (Y.n.refs.take (i + 1)) nm).length ((keepN ARef.role (Y.n.refs.take (i + 1)) nm).flatMap refCells)) := Lib.hid (by rw [HKE.out]; exact HOW.out)
              clear he
              go_wp2
              go_roundg (Y.n.refs.length - (i + 1))
              case measure => omega
              case rel => exact ⟨i + 1, _, by go_num, rfl, rfl, by omega, HBX, HOK⟩
          · have hil : i = Y.n.refs.length := by omega
            subst hil
            have hlt' : ¬ ((Y.n.refs.length : Nat) : Int) < Y.n.refs.length := by omega
            rw [List.take_length] at HOW
            obtain ⟨hjl, hY⟩ := HY.out
            have HOW4 := Lib.hid (HOs.out.below HBX.out)
            have c4 := HOW4.out.cell (i := j) (j := 6) hjl (by omega)
            rw [hY] at c4
            simp [LN.cells, nodeCellsA] at c4
            have z4 := HOW4.out.frozen (j * 7 + 6)
            have HPw := Lib.hid (HPs.out.below HBX.out HPs.out.lt)
            have HRw := Lib.hid (HRs.out.below HBX.out HRs.out.lt)
            have p0 := HPw.out.cell 0; have p1 := HPw.out.cell 1
            have hplt := HPw.out.lt
            simp at p0 p1
            obtain ⟨Lv, hLv⟩ : ∃ Lv, keepN ARef.role Y.n.refs nm = Lv := ⟨_, rfl⟩
            have HLV := Lib.hid hLv
            rw [hLv] at HOW
            clear hLv
            obtain ⟨Az, cz, hvz⟩ := own_shape HOW.out
            (try subst hvz)
            obtain ⟨V, hV⟩ : ∃ V, Value.slice Az Lv.length cz = V := ⟨_, rfl⟩
            rw [hV] at HOW
            have HV := Lib.hid hV
            clear hV
            have HO4 := Lib.hid (HOs.out.setRefs hjl hY Lv V (grown_of HBX.out _) (.inr (own_new HOW.out)) (own_weaken HOW.out hus))
            have HBz : Hid (Below w.heap.size w wr) := Lib.hid (HBs.out.trans (HBX.out.mono HBs.out.size))
            have HB4 := Lib.hid (HBz.out.setCell (p := ⟨g, j * 7 + 6, none⟩) (by have := HSZ.out; show w.heap.size ≤ g; omega) V)
            have HP4 := Lib.hid (HPw.out.far (p := ⟨g, j * 7 + 6, none⟩) (by show p ≠ g; omega) V)
            have HR4 := Lib.hid (HRw.out.far (p := ⟨g, j * 7 + 6, none⟩) (by have := HRS.out; show w.heap.size + 1 ≠ g; omega) V)
            rw [← HV.out] at HO4 HB4 HP4 HR4
            have HWE : Hid (∃ z, z = wr.setCell ⟨g, j * 7 + 6, none⟩ (.slice Az Lv.length cz)) := Lib.hid ⟨_, rfl⟩
            have hgz : g < wr.heap.size := by have := HPw.out.lt; omega
            clear hY
            go_upto_region 16 with fail
            obtain ⟨x4, hx4⟩ := HWE.out
            rw [← hx4] at HO4 HB4 HP4 HR4
            (try rw [← hx4])
            clear hx4 HWE c4 z4 p0 p1 hplt
            have p0 := HP4.out.cell 0; have p1 := HP4.out.cell 1
            have hplt := HP4.out.lt
            simp at p0 p1
            have t0 := HR4.out.frozen 0; have t1 := HR4.out.frozen 1
            have r0 := HR4.out.cell 0; have r1 := HR4.out.cell 1
            have hrlt := HR4.out.lt
            simp at r0 r1
            go_wp2_with fail
            have hyS := (HR4.out.set_ 0 (.int .i64 m.next)).set_ 1 (.slice (some ⟨g, 0, none⟩) m.nodes.length cv)
            have f0 := hyS.cell 0; have f1 := hyS.cell 1
            simp at f0 f1
            have HBWz := Lib.hid ((HB4.out.setCell (p := ⟨w.heap.size + 1, 0, none⟩) (by show w.heap.size ≤ w.heap.size + 1; omega) (.int .i64 m.next)).setCell (p := ⟨w.heap.size + 1, 1, none⟩) (by show w.heap.size ≤ w.heap.size + 1; omega) (.slice (some ⟨g, 0, none⟩) m.nodes.length cv))
            refine bodyPost_ret (v := .tuple #[.agg #[.int .i64 m.next, .slice (some ⟨g, 0, none⟩) m.nodes.length cv], .int .i64 0]) (by simp [results, Try.results46, go_sem, f0, f1]) rfl ⟨⟨_, rfl, Or.inr ⟨E.out, _, _, rfl, (HO4.out.keep (fun b h1 _ => ?_)).weaken HSZ.out, j, HJ1.out.1, HJ1.out.2, ?_⟩⟩, HBWz.out⟩
            · have := HRS.out
              exact (Below.heap_setCell _ _ _ _ (by show b ≠ w.heap.size + 1; omega)).trans (Below.heap_setCell _ _ _ _ (by show b ≠ w.heap.size + 1; omega))
            · rw [List.map_set, HLM.out, HYN.out.2, ← HLV.out]; rfl
      · have HAT := Lib.hid hj2
        have E := Lib.hid (show EE = 20 from HEE.out.symm.trans (setE_node HCM.out HW.out (fun h => h) (by rw [hj2]; omega)))
        clear hj1 hj2
        go_enter Try.func46, Try.ntmps46
        go_wp2_with fail
        (try rw [HU0.out])
        refine (HC2.out).mono ?_
        rintro _ u1 ⟨rfl, hb⟩
        have HB1 := Lib.hid (HB0.out.trans (hb.mono HB0.out.size))
        have HM1 := Lib.hid (HM0.out.below hb HM0.out.lt)
        have HR1 := Lib.hid (HR0.out.below hb HR0.out.lt)
        clear hb
        go_wp2_with fail
        refine (sword_is hns HW.out u1).mono ?_
        rintro _ u2 ⟨rfl, hb⟩
        have HB2 := Lib.hid (HB1.out.trans (hb.mono HB1.out.size))
        have HM2 := Lib.hid (HM1.out.below hb HM1.out.lt)
        have HR2 := Lib.hid (HR1.out.below hb HR1.out.lt)
        clear hb
        have m0 := HM2.out.cell 0; have m1 := HM2.out.cell 1
        have hmlt := HM2.out.lt
        simp at m0 m1
        go_wp2_with fail
        refine (int_is HAT.out (at_any A c m.next id m.nodes u2 F (fun b hb => Nat.lt_of_lt_of_le (hF b hb) HB2.out.size) (HH.out.keep ENode.stays (Keep.below HB2.out hF) (fun _ h => h)) HS.out.1 (by omega))).mono ?_
        rintro _ u3 ⟨rfl, hb⟩
        have HB3 := Lib.hid (HB2.out.trans (hb.mono HB2.out.size))
        have HM3 := Lib.hid (HM2.out.below hb HM2.out.lt)
        have HR3 := Lib.hid (HR2.out.below hb HR2.out.lt)
        clear hb
        clear m0 m1 hmlt
        have t0 := HR3.out.frozen 0; have t1 := HR3.out.frozen 1
        have r0 := HR3.out.cell 0; have r1 := HR3.out.cell 1
        have hrlt := HR3.out.lt
        simp at r0 r1
        go_wp2_with fail
        have hyS := (HR3.out.set_ 0 (.int .i64 0)).set_ 1 (.slice none 0 0)
        have f0 := hyS.cell 0; have f1 := hyS.cell 1
        simp at f0 f1
        have HBW := Lib.hid ((HB3.out.setCell (p := ⟨w.heap.size + 1, 0, none⟩) (by show w.heap.size ≤ w.heap.size + 1; omega) (.int .i64 0)).setCell (p := ⟨w.heap.size + 1, 1, none⟩) (by show w.heap.size ≤ w.heap.size + 1; omega) (.slice none 0 0))
        exact bodyPost_ret (v := .tuple #[.agg #[.int .i64 0, .slice none 0 0], .int .i64 (20)]) (by simp [results, Try.results46, go_sem, f0, f1]) rfl ⟨⟨_, rfl, Or.inl ⟨by rw [E.out]; decide, by rw [E.out]⟩⟩, HBW.out⟩
  · have HC2 := Lib.hid (res_is (rightM_is.2 hc) HC.out)
    have E := Lib.hid (show EE = 29 from HEE.out.symm.trans (setE_check hc))
    clear hc HC
    go_enter Try.func46, Try.ntmps46
    go_wp2_with fail
    (try rw [HU0.out])
    refine (HC2.out).mono ?_
    rintro _ u1 ⟨rfl, hb⟩
    have HB1 := Lib.hid (HB0.out.trans (hb.mono HB0.out.size))
    have HM1 := Lib.hid (HM0.out.below hb HM0.out.lt)
    have HR1 := Lib.hid (HR0.out.below hb HR0.out.lt)
    clear hb
    have t0 := HR1.out.frozen 0; have t1 := HR1.out.frozen 1
    have r0 := HR1.out.cell 0; have r1 := HR1.out.cell 1
    have hrlt := HR1.out.lt
    simp at r0 r1
    go_wp2_with fail
    have hyS := (HR1.out.set_ 0 (.int .i64 0)).set_ 1 (.slice none 0 0)
    have f0 := hyS.cell 0; have f1 := hyS.cell 1
    simp at f0 f1
    have HBW := Lib.hid ((HB1.out.setCell (p := ⟨w.heap.size + 1, 0, none⟩) (by show w.heap.size ≤ w.heap.size + 1; omega) (.int .i64 0)).setCell (p := ⟨w.heap.size + 1, 1, none⟩) (by show w.heap.size ≤ w.heap.size + 1; omega) (.slice none 0 0))
    exact bodyPost_ret (v := .tuple #[.agg #[.int .i64 0, .slice none 0 0], .int .i64 (29)]) (by simp [results, Try.results46, go_sem, f0, f1]) rfl ⟨⟨_, rfl, Or.inl ⟨by rw [E.out]; decide, by rw [E.out]⟩⟩, HBW.out⟩
end Go.Proofs.Ytmafhaadcjgcbaa
