import Derived.Test.YtmafhaadcjgcbaaSetP
import Derived.Test.YtmafhaadcjgcbaaTwinA
import Derived.Test.YtmafhaadcjgcbaaAOrder
namespace Go.Proofs.Ytmafhaadcjgcbaa
open Go Go.RowKit

set_option maxRecDepth 100000 in
set_option maxHeartbeats 4000000 in
theorem dropA_any (A : Option Addr) (c : Nat) (m : AModel) (w : World) (F : Nat → Prop) (hF : ∀ b, F b → b < w.heap.size) (h : RowOf 7 ENode w F A m.nodes) (hz : ∀ x ∈ m.nodes, NodeOK x) (hz' : ∀ x ∈ m.nodes, LensOK x) (hl : m.nodes.length ≤ 9223372036854775807) (id : Int) (hid : InR id) (nm : ByteArray) (hns : nm.size ≤ 9223372036854775807)  :
    Calls Try.prog 41 #[.agg #[.int .i64 m.next, .slice A m.nodes.length c], .int .i64 id, .string nm] w fun e w' => (∃ v, e = .returned v ∧ SetAs w' w.heap.size m id (setE m nm False (atI m.nodes id < 0)) (dropN nm) v) ∧ Below w.heap.size w w' := by
  obtain ⟨EE, hEE⟩ : ∃ EE, setE m nm False (atI m.nodes id < 0) = EE := ⟨_, rfl⟩
  rw [hEE]
  have HEE := Lib.hid hEE
  clear hEE
  have HBA : Hid (Below w.heap.size w (((w.alloc (.cells #[.int .i64 m.next, .slice A m.nodes.length c] 24)).alloc (.cells #[.string nm] 9)).alloc (.cells #[.int .i64 0, .slice none 0 0] 24))) := Lib.hid ((((Below.refl w.heap.size w).alloc (Nat.le_refl _) _).alloc (by simp) _).alloc (by simp; omega) _)
  have HC := Lib.hid (check_any A c m _ F (fun b hb => Nat.lt_of_lt_of_le (hF b hb) HBA.out.size) (h.keep ENode.stays (Keep.below HBA.out hF) (fun _ h => h)) hz hl)
  have HM0 : Hid (Blk (((w.alloc (.cells #[.int .i64 m.next, .slice A m.nodes.length c] 24)).alloc (.cells #[.string nm] 9)).alloc (.cells #[.int .i64 0, .slice none 0 0] 24)) w.heap.size 24 #[.int .i64 m.next, .slice A m.nodes.length c]) := Lib.hid (((Blk.new w _ _).alloc _).alloc _)
  have HN0 : Hid (Blk (((w.alloc (.cells #[.int .i64 m.next, .slice A m.nodes.length c] 24)).alloc (.cells #[.string nm] 9)).alloc (.cells #[.int .i64 0, .slice none 0 0] 24)) (w.heap.size + 1) 9 #[.string nm]) := Lib.hid ((Blk.new' (by simp)).alloc _)
  have HR0 : Hid (Blk (((w.alloc (.cells #[.int .i64 m.next, .slice A m.nodes.length c] 24)).alloc (.cells #[.string nm] 9)).alloc (.cells #[.int .i64 0, .slice none 0 0] 24)) (w.heap.size + 2) 24 #[.int .i64 0, .slice none 0 0]) := Lib.hid (Blk.new' (by simp))
  have HH := Lib.hid h; have HZ := Lib.hid hz; have HZ' := Lib.hid hz'
  clear h hz hz'
  obtain ⟨u0, hu0⟩ : ∃ u : World, ((w.alloc (.cells #[.int .i64 m.next, .slice A m.nodes.length c] 24)).alloc (.cells #[.string nm] 9)).alloc (.cells #[.int .i64 0, .slice none 0 0] 24) = u := ⟨_, rfl⟩
  rw [hu0] at HBA HC HM0 HR0 HN0
  have HU0 := Lib.hid hu0
  clear hu0
  have HB0 := HBA
  by_cases hc : CheckM m
  · have HC2 := Lib.hid (int_is (checkI_yes hc) HC.out)
    have HCM := Lib.hid hc
    have HS := Lib.hid hc.1.srtB
    have hl4 : m.nodes.length ≤ 4096 := hc.1.1.2.2
    have hnx : 1 ≤ m.next ∧ m.next ≤ 1048577 := ⟨hc.1.1.1, hc.1.1.2.1⟩
    clear hc HC
    rcases hwc : wordA nm with _ | _
    · have E := Lib.hid (show EE = 2 from HEE.out.symm.trans (setE_word HCM.out hwc))
      have HW := Lib.hid hwc
      clear hwc
      go_enter Try.func41, Try.ntmps41
      go_wp2_with fail
      (try rw [HU0.out])
      refine (HC2.out).mono ?_
      rintro _ u1 ⟨rfl, hb⟩
      have HB1 := Lib.hid (HB0.out.trans (hb.mono HB0.out.size))
      have HM1 := Lib.hid (HM0.out.below hb HM0.out.lt)
      have HR1 := Lib.hid (HR0.out.below hb HR0.out.lt)
      have HN1 := Lib.hid (HN0.out.below hb HN0.out.lt)
      clear hb
      have n0 := HN1.out.cell 0
      have hnlt := HN1.out.lt
      simp at n0
      go_wp2_with fail
      refine (aword_is hns HW.out u1).mono ?_
      rintro _ u2 ⟨rfl, hb⟩
      have HB2 := Lib.hid (HB1.out.trans (hb.mono HB1.out.size))
      have HM2 := Lib.hid (HM1.out.below hb HM1.out.lt)
      have HR2 := Lib.hid (HR1.out.below hb HR1.out.lt)
      have HN2 := Lib.hid (HN1.out.below hb HN1.out.lt)
      clear hb
      clear n0 hnlt
      have t0 := HR2.out.frozen 0; have t1 := HR2.out.frozen 1
      have r0 := HR2.out.cell 0; have r1 := HR2.out.cell 1
      have hrlt := HR2.out.lt
      simp at r0 r1
      go_wp2_with fail
      have hyS := (HR2.out.set_ 0 (.int .i64 0)).set_ 1 (.slice none 0 0)
      have f0 := hyS.cell 0; have f1 := hyS.cell 1
      simp at f0 f1
      have HBW := Lib.hid ((HB2.out.setCell (p := ⟨w.heap.size + 2, 0, none⟩) (by show w.heap.size ≤ w.heap.size + 2; omega) (.int .i64 0)).setCell (p := ⟨w.heap.size + 2, 1, none⟩) (by show w.heap.size ≤ w.heap.size + 2; omega) (.slice none 0 0))
      exact bodyPost_ret (v := .tuple #[.agg #[.int .i64 0, .slice none 0 0], .int .i64 (2)]) (by simp [results, Try.results41, go_sem, f0, f1]) rfl ⟨⟨_, rfl, Or.inl ⟨by rw [E.out]; decide, by rw [E.out]⟩⟩, HBW.out⟩
    · have HW := Lib.hid hwc
      clear hwc
      rcases atI_cases m.nodes id with ⟨j, hj, hj1, hj2⟩ | ⟨hj1, hj2⟩
      · have HAT := Lib.hid hj2
        have g4 : decide ((j : Int) < 0) = false := decide_eq_false (by omega)
        have E := Lib.hid (show EE = 0 from HEE.out.symm.trans (setE_ok HCM.out HW.out (fun h => h) (by rw [hj2]; omega)))
        clear hj2
        go_enter Try.func41, Try.ntmps41
        go_wp2_with fail
        (try rw [HU0.out])
        refine (HC2.out).mono ?_
        rintro _ u1 ⟨rfl, hb⟩
        have HB1 := Lib.hid (HB0.out.trans (hb.mono HB0.out.size))
        have HM1 := Lib.hid (HM0.out.below hb HM0.out.lt)
        have HR1 := Lib.hid (HR0.out.below hb HR0.out.lt)
        have HN1 := Lib.hid (HN0.out.below hb HN0.out.lt)
        clear hb
        have n0 := HN1.out.cell 0
        have hnlt := HN1.out.lt
        simp at n0
        go_wp2_with fail
        refine (aword_is hns HW.out u1).mono ?_
        rintro _ u2 ⟨rfl, hb⟩
        have HB2 := Lib.hid (HB1.out.trans (hb.mono HB1.out.size))
        have HM2 := Lib.hid (HM1.out.below hb HM1.out.lt)
        have HR2 := Lib.hid (HR1.out.below hb HR1.out.lt)
        have HN2 := Lib.hid (HN1.out.below hb HN1.out.lt)
        clear hb
        clear n0 hnlt
        have m0 := HM2.out.cell 0; have m1 := HM2.out.cell 1
        have hmlt := HM2.out.lt
        simp at m0 m1
        go_wp2_with fail
        refine (int_is HAT.out (place_any A c m.next id m.nodes u2 F (fun b hb => Nat.lt_of_lt_of_le (hF b hb) HB2.out.size) (HH.out.keep ENode.stays (Keep.below HB2.out hF) (fun _ h => h)) HS.out hid (by omega))).mono ?_
        rintro _ u3 ⟨rfl, hb⟩
        have HB3 := Lib.hid (HB2.out.trans (hb.mono HB2.out.size))
        have HM3 := Lib.hid (HM2.out.below hb HM2.out.lt)
        have HR3 := Lib.hid (HR2.out.below hb HR2.out.lt)
        have HN3 := Lib.hid (HN2.out.below hb HN2.out.lt)
        clear hb
        clear m0 m1 hmlt
        have m0 := HM3.out.cell 0; have m1 := HM3.out.cell 1
        have hmlt := HM3.out.lt
        simp at m0 m1
        go_wp2_with fail
        refine (twinA_any A c m u3 F (fun b hb => Nat.lt_of_lt_of_le (hF b hb) HB3.out.size) (HH.out.keep ENode.stays (Keep.below HB3.out hF) (fun _ h => h)) HZ'.out (by omega)).mono ?_
        rintro _ u4 ⟨vt, rfl, l, hown, hlm, hb⟩
        have HB4 := Lib.hid (HB3.out.trans (hb.mono HB3.out.size))
        have HM4 := Lib.hid (HM3.out.below hb HM3.out.lt)
        have HR4 := Lib.hid (HR3.out.below hb HR3.out.lt)
        have HN4 := Lib.hid (HN3.out.below hb HN3.out.lt)
        have HSZ := Lib.hid HB3.out.size
        have hll : l.length = m.nodes.length := by rw [← hlm]; simp
        have hjl : j < l.length := by omega
        obtain ⟨g, cv, rfl, hnc, hcm, hgb, hgw⟩ := own_some hown.row (by omega)
        obtain ⟨Y, hY⟩ : ∃ Y, l[j] = Y := ⟨_, rfl⟩
        have hYn : m.nodes[j] = Y.n := by
          have h1 : (l.map LN.n)[j]? = some Y.n := by rw [List.getElem?_map, List.getElem?_eq_getElem hjl, hY]; rfl
          rw [hlm, List.getElem?_eq_getElem hj] at h1
          injection h1
        rw [hll] at hown hnc ⊢
        have HO := Lib.hid hown; have HLM := Lib.hid hlm
        have HY := Lib.hid (show ∃ h : j < l.length, l[j]'h = Y from ⟨hjl, hY⟩)
        have HYN := Lib.hid (show ∃ h : j < m.nodes.length, m.nodes[j]'h = Y.n from ⟨hj, hYn⟩)
        have HJ1 := Lib.hid (show ∃ h : j < m.nodes.length, (m.nodes[j]'h).id = id from ⟨hj, hj1⟩)
        have HSN : Hid (SrtN AProp.name Y.n.props) := Lib.hid (by rw [← hYn]; exact props_srt (HCM.out.2.1 _ (List.getElem_mem hj)).2.2.2.2.1)
        have hLN : Y.n.props.length ≤ 4398046510976 := by
          have := HZ'.out m.nodes[j] (List.getElem_mem hj)
          rw [hYn] at this
          unfold LensOK at this
          omega
        have HRS : Hid (w.heap.size + 2 < u3.heap.size) := Lib.hid HR3.out.lt
        clear hb hown hlm hll hjl hY hYn hj1 m0 m1 hmlt
        have m0 := HM4.out.cell 0; have m1 := HM4.out.cell 1
        have hmlt := HM4.out.lt
        simp at m0 m1
        go_upto_region 8 with fail
        obtain ⟨p, hp⟩ : ∃ p, u4.heap.size = p := ⟨_, rfl⟩
        obtain ⟨x1, hx1⟩ : ∃ z : World, u4.alloc (.cells #[.int .i64 m.next, .slice (some ⟨g, 0, none⟩) m.nodes.length cv] 24) = z := ⟨_, rfl⟩
        have HX : Hid (Below u4.heap.size u4 x1) := Lib.hid (by rw [← hx1]; exact (Below.refl _ _).alloc (Nat.le_refl _) _)
        have HP1 : Hid (Blk x1 p 24 #[.int .i64 m.next, .slice (some ⟨g, 0, none⟩) m.nodes.length cv]) := Lib.hid (by rw [← hx1, ← hp]; exact Blk.new _ _ _)
        have HO1 := Lib.hid (HO.out.below HX.out)
        have HB1x := Lib.hid (HB4.out.trans (HX.out.mono HB4.out.size))
        have HR1x := Lib.hid (HR4.out.below HX.out HR4.out.lt)
        have HN1x := Lib.hid (HN4.out.below HX.out HN4.out.lt)
        have HYB : Hid (∀ b, some b ∈ Y.blocks → u3.heap.size ≤ b ∧ b < p) := Lib.hid (fun b hb => by
          rw [← hp]
          obtain ⟨h1, h2⟩ := HY.out
          exact (HO.out.lists Y (by rw [← h2]; exact List.getElem_mem h1)).lt b hb)
        have hgp : g < p := by omega
        have hpw : w.heap.size + 2 < p := by have := HRS.out; omega
        (try rw [hx1])
        (try rw [hp])
        clear hx1 hp m0 m1 hmlt HO HX hgw
        have p0 := HP1.out.cell 0; have p1 := HP1.out.cell 1
        have hplt := HP1.out.lt
        simp at p0 p1
        have hj0 : (0 : Int) ≤ j := by omega
        have hj1 : (j : Int) < m.nodes.length := by omega
        have CP := Lib.hid (fun (d : Nat) (os : Array Obj) => Calls.regrown_of (w := x1) (d := d) (os := os) (by
          have ho := HO1.out.below (below_regrown x1 d os)
          have := place_any (some ⟨g, 0, none⟩) cv m.next id m.nodes (Sort.grow (redrawn x1 d) os) (fun b => u3.heap.size ≤ b ∧ b < (Sort.grow (redrawn x1 d) os).heap.size) (fun b hb => hb.2) (by rw [← HLM.out]; exact ho.rowOf (fun b h1 h2 => ⟨h1, h2⟩)) HS.out hid (by omega)
          rw [HAT.out] at this; exact this))
        have k0 := cell_regrown p0; have k1 := cell_regrown p1
        clear p0 p1
        refine wp_region_quiet_below (by kernel_rfl) (by kernel_rfl) ?_
        repeat (first | go_big_quiet_step (exact CP.out _ _) | quiet_step (exact CP.out _ _))
        refine wpQuiet_nil ?_
        intro _ hw'
        obtain ⟨⟨dq, osq⟩, hw''⟩ := hw'
        subst hw''
        have hbr := below_regrown x1 dq osq
        have HB2 := Lib.hid (HB1x.out.trans (hbr.mono HB1x.out.size))
        have HP2 := Lib.hid (HP1.out.below hbr hplt)
        have HR2 := Lib.hid (HR1x.out.below hbr HR1x.out.lt)
        have HN2 := Lib.hid (HN1x.out.below hbr HN1x.out.lt)
        have HO2 := Lib.hid (HO1.out.below hbr)
        have hbx2 : p < (Sort.grow (redrawn x1 dq) osq).heap.size := Nat.lt_of_lt_of_le hplt hbr.size
        clear k0 k1 CP hbr
        obtain ⟨x2, hu⟩ : ∃ z : World, Sort.grow (redrawn x1 dq) osq = z := ⟨_, rfl⟩
        rw [hu] at HB2 HP2 HR2 HO2 hbx2 HN2 ⊢
        clear hu hplt HO1 HP1 HB1x HR1x
        have hgx2 : g < x2.heap.size := by omega
        obtain ⟨hjl, hY⟩ := HY.out
        have hYm : Y ∈ l := by rw [← hY]; exact List.getElem_mem hjl
        have c4 := HO2.out.cell (i := j) (j := 4) hjl (by omega)
        rw [hY] at c4
        simp [LN.cells, nodeCellsA] at c4
        have z4 := HO2.out.frozen (j * 7 + 4)
        have hOL := (HO2.out.lists Y hYm).p
        obtain ⟨Ap, cp, hAp⟩ := own_shape hOL
        have HPR := Lib.hid (IsRow.of_own (F := fun b => b < x2.heap.size) propCells_len hOL (own_at hOL (fun b _ h => h)))
        have HOL := Lib.hid hOL
        have HAP := Lib.hid hAp
        have HYS : Hid (∀ b, Y.p.ownBlock = some b → u3.heap.size ≤ b ∧ b < p) := Lib.hid (fun b hb => HYB.out b (by simp [LN.blocks, hb]))
        have HGY : Hid (Y.p.ownBlock ≠ some g) := Lib.hid (fun e => HO2.out.row_ne hYm (b := g) (by rw [← e]; simp [LN.blocks]) rfl)
        rw [hAp] at c4
        clear hY hYm hOL hAp
        have n0 := HN2.out.cell 0
        have hnlt := HN2.out.lt
        simp at n0
        have HDEL := Lib.hid (delProp_any (.slice Ap Y.n.props.length cp) Y.n.props nm (w.heap.size + 1) x2 u3.heap.size (by rw [← HAP.out]; exact HOL.out) HN2.out (by rw [← HAP.out]; intro e; have := HYS.out _ e; have := HRS.out; omega) (by omega))
        unfold dropFn at HDEL
        go_wp2_with fail
        refine HDEL.out.mono ?_
        rintro _ x3 ⟨v', rfl, hown3, hg3, hat3⟩
        rw [← HAP.out] at hg3 hat3
        clear HDEL n0 hnlt c4 z4
        have hgg : x3.heap[g]? = x2.heap[g]? := hg3.block g hgx2 (fun e => HGY.out e.symm)
        obtain ⟨hjl, hY⟩ := HY.out
        have c4 : x3.cell? ⟨g, j * 7 + 4, none⟩ = some Y.p := by
          have h := HO2.out.cell (i := j) (j := 4) hjl (by omega)
          rw [hY] at h
          rw [World.cell?_of_block (w := x2) (a := ⟨g, j * 7 + 4, none⟩) hgg, h]
          simp [LN.cells, nodeCellsA]
        have z4 : x3.frozen? ⟨g, j * 7 + 4, none⟩ = false := by
          rw [World.frozen?_of_block (w := x2) (a := ⟨g, j * 7 + 4, none⟩) hgg]; exact HO2.out.frozen _
        have HB3 : Hid (Below w.heap.size w x3) := Lib.hid (HB2.out.grown hg3 (by omega) (fun b e => by have := HYS.out b e; have := HSZ.out; omega))
        have HP3 := Lib.hid (HP2.out.grown hg3 (fun e => by have := HYS.out _ e.symm; omega))
        have HR3 := Lib.hid (HR2.out.grown hg3 (fun e => by have := HYS.out _ e.symm; have := HRS.out; omega))
        have HO4 := Lib.hid (HO2.out.setProps hjl hY (keepN AProp.name Y.n.props nm) v' hg3 (.inl hat3) hown3)
        have HB4 := Lib.hid (HB3.out.setCell (p := ⟨g, j * 7 + 4, none⟩) (by have := HSZ.out; show w.heap.size ≤ g; omega) v')
        have HP4 := Lib.hid (HP3.out.far (p := ⟨g, j * 7 + 4, none⟩) (by show p ≠ g; omega) v')
        have HR4 := Lib.hid (HR3.out.far (p := ⟨g, j * 7 + 4, none⟩) (by have := HRS.out; show w.heap.size + 2 ≠ g; omega) v')
        obtain ⟨A', c', hv'⟩ := own_shape hown3
        subst hv'
        have hgx3 : g < x3.heap.size := by have := hg3.size; omega
        clear hgg hY hown3 hg3 hat3
        have HWE : Hid (∃ z, z = x3.setCell ⟨g, j * 7 + 4, none⟩ (.slice A' (keepN AProp.name Y.n.props nm).length c')) := Lib.hid ⟨_, rfl⟩
        go_upto_region 10 with fail
        obtain ⟨x4, hx4⟩ := HWE.out
        rw [← hx4] at HO4 HB4 HP4 HR4
        (try rw [← hx4])
        clear hx4 HWE c4 z4
        have p0 := HP4.out.cell 0; have p1 := HP4.out.cell 1
        have hplt := HP4.out.lt
        simp at p0 p1
        have t0 := HR4.out.frozen 0; have t1 := HR4.out.frozen 1
        have r0 := HR4.out.cell 0; have r1 := HR4.out.cell 1
        have hrlt := HR4.out.lt
        simp at r0 r1
        go_wp2_with fail
        have hyS := (HR4.out.set_ 0 (.int .i64 m.next)).set_ 1 (.slice (some ⟨g, 0, none⟩) m.nodes.length cv)
        have f0 := hyS.cell 0; have f1 := hyS.cell 1
        simp at f0 f1
        have HBW := Lib.hid ((HB4.out.setCell (p := ⟨w.heap.size + 2, 0, none⟩) (by show w.heap.size ≤ w.heap.size + 2; omega) (.int .i64 m.next)).setCell (p := ⟨w.heap.size + 2, 1, none⟩) (by show w.heap.size ≤ w.heap.size + 2; omega) (.slice (some ⟨g, 0, none⟩) m.nodes.length cv))
        refine bodyPost_ret (v := .tuple #[.agg #[.int .i64 m.next, .slice (some ⟨g, 0, none⟩) m.nodes.length cv], .int .i64 0]) (by simp [results, Try.results41, go_sem, f0, f1]) rfl ⟨⟨_, rfl, Or.inr ⟨E.out, _, _, rfl, (HO4.out.keep (fun b h1 _ => ?_)).weaken HSZ.out, j, HJ1.out.1, HJ1.out.2, ?_⟩⟩, HBW.out⟩
        · have := HRS.out
          exact (Below.heap_setCell _ _ _ _ (by show b ≠ w.heap.size + 2; omega)).trans (Below.heap_setCell _ _ _ _ (by show b ≠ w.heap.size + 2; omega))
        · rw [List.map_set, HLM.out, HYN.out.2]; rfl
      · have HAT := Lib.hid hj2
        have E := Lib.hid (show EE = 20 from HEE.out.symm.trans (setE_node HCM.out HW.out (fun h => h) (by rw [hj2]; omega)))
        clear hj1 hj2
        go_enter Try.func41, Try.ntmps41
        go_wp2_with fail
        (try rw [HU0.out])
        refine (HC2.out).mono ?_
        rintro _ u1 ⟨rfl, hb⟩
        have HB1 := Lib.hid (HB0.out.trans (hb.mono HB0.out.size))
        have HM1 := Lib.hid (HM0.out.below hb HM0.out.lt)
        have HR1 := Lib.hid (HR0.out.below hb HR0.out.lt)
        have HN1 := Lib.hid (HN0.out.below hb HN0.out.lt)
        clear hb
        have n0 := HN1.out.cell 0
        have hnlt := HN1.out.lt
        simp at n0
        go_wp2_with fail
        refine (aword_is hns HW.out u1).mono ?_
        rintro _ u2 ⟨rfl, hb⟩
        have HB2 := Lib.hid (HB1.out.trans (hb.mono HB1.out.size))
        have HM2 := Lib.hid (HM1.out.below hb HM1.out.lt)
        have HR2 := Lib.hid (HR1.out.below hb HR1.out.lt)
        have HN2 := Lib.hid (HN1.out.below hb HN1.out.lt)
        clear hb
        clear n0 hnlt
        have m0 := HM2.out.cell 0; have m1 := HM2.out.cell 1
        have hmlt := HM2.out.lt
        simp at m0 m1
        go_wp2_with fail
        refine (int_is HAT.out (place_any A c m.next id m.nodes u2 F (fun b hb => Nat.lt_of_lt_of_le (hF b hb) HB2.out.size) (HH.out.keep ENode.stays (Keep.below HB2.out hF) (fun _ h => h)) HS.out hid (by omega))).mono ?_
        rintro _ u3 ⟨rfl, hb⟩
        have HB3 := Lib.hid (HB2.out.trans (hb.mono HB2.out.size))
        have HM3 := Lib.hid (HM2.out.below hb HM2.out.lt)
        have HR3 := Lib.hid (HR2.out.below hb HR2.out.lt)
        have HN3 := Lib.hid (HN2.out.below hb HN2.out.lt)
        clear hb
        clear m0 m1 hmlt
        have t0 := HR3.out.frozen 0; have t1 := HR3.out.frozen 1
        have r0 := HR3.out.cell 0; have r1 := HR3.out.cell 1
        have hrlt := HR3.out.lt
        simp at r0 r1
        go_wp2_with fail
        have hyS := (HR3.out.set_ 0 (.int .i64 0)).set_ 1 (.slice none 0 0)
        have f0 := hyS.cell 0; have f1 := hyS.cell 1
        simp at f0 f1
        have HBW := Lib.hid ((HB3.out.setCell (p := ⟨w.heap.size + 2, 0, none⟩) (by show w.heap.size ≤ w.heap.size + 2; omega) (.int .i64 0)).setCell (p := ⟨w.heap.size + 2, 1, none⟩) (by show w.heap.size ≤ w.heap.size + 2; omega) (.slice none 0 0))
        exact bodyPost_ret (v := .tuple #[.agg #[.int .i64 0, .slice none 0 0], .int .i64 (20)]) (by simp [results, Try.results41, go_sem, f0, f1]) rfl ⟨⟨_, rfl, Or.inl ⟨by rw [E.out]; decide, by rw [E.out]⟩⟩, HBW.out⟩
  · have HC2 := Lib.hid (int_is (checkI_no hc) HC.out)
    have E := Lib.hid (show EE = 29 from HEE.out.symm.trans (setE_check hc))
    clear hc HC
    go_enter Try.func41, Try.ntmps41
    go_wp2_with fail
    (try rw [HU0.out])
    refine (HC2.out).mono ?_
    rintro _ u1 ⟨rfl, hb⟩
    have HB1 := Lib.hid (HB0.out.trans (hb.mono HB0.out.size))
    have HM1 := Lib.hid (HM0.out.below hb HM0.out.lt)
    have HR1 := Lib.hid (HR0.out.below hb HR0.out.lt)
    have HN1 := Lib.hid (HN0.out.below hb HN0.out.lt)
    clear hb
    have t0 := HR1.out.frozen 0; have t1 := HR1.out.frozen 1
    have r0 := HR1.out.cell 0; have r1 := HR1.out.cell 1
    have hrlt := HR1.out.lt
    simp at r0 r1
    go_wp2_with fail
    have hyS := (HR1.out.set_ 0 (.int .i64 0)).set_ 1 (.slice none 0 0)
    have f0 := hyS.cell 0; have f1 := hyS.cell 1
    simp at f0 f1
    have HBW := Lib.hid ((HB1.out.setCell (p := ⟨w.heap.size + 2, 0, none⟩) (by show w.heap.size ≤ w.heap.size + 2; omega) (.int .i64 0)).setCell (p := ⟨w.heap.size + 2, 1, none⟩) (by show w.heap.size ≤ w.heap.size + 2; omega) (.slice none 0 0))
    exact bodyPost_ret (v := .tuple #[.agg #[.int .i64 0, .slice none 0 0], .int .i64 (29)]) (by simp [results, Try.results41, go_sem, f0, f1]) rfl ⟨⟨_, rfl, Or.inl ⟨by rw [E.out]; decide, by rw [E.out]⟩⟩, HBW.out⟩

set_option maxRecDepth 100000 in
set_option maxHeartbeats 4000000 in
theorem looseA_any (A : Option Addr) (c : Nat) (m : AModel) (w : World) (F : Nat → Prop) (hF : ∀ b, F b → b < w.heap.size) (h : RowOf 7 ENode w F A m.nodes) (hz : ∀ x ∈ m.nodes, NodeOK x) (hz' : ∀ x ∈ m.nodes, LensOK x) (hl : m.nodes.length ≤ 9223372036854775807) (id : Int) (hid : InR id) (nm : ByteArray) (hns : nm.size ≤ 9223372036854775807)  :
    Calls Try.prog 45 #[.agg #[.int .i64 m.next, .slice A m.nodes.length c], .int .i64 id, .string nm] w fun e w' => (∃ v, e = .returned v ∧ SetAs w' w.heap.size m id (setE m nm False (atI m.nodes id < 0)) (looseN nm) v) ∧ Below w.heap.size w w' := by
  obtain ⟨EE, hEE⟩ : ∃ EE, setE m nm False (atI m.nodes id < 0) = EE := ⟨_, rfl⟩
  rw [hEE]
  have HEE := Lib.hid hEE
  clear hEE
  have HBA : Hid (Below w.heap.size w (((w.alloc (.cells #[.int .i64 m.next, .slice A m.nodes.length c] 24)).alloc (.cells #[.string nm] 9)).alloc (.cells #[.int .i64 0, .slice none 0 0] 24))) := Lib.hid ((((Below.refl w.heap.size w).alloc (Nat.le_refl _) _).alloc (by simp) _).alloc (by simp; omega) _)
  have HC := Lib.hid (check_any A c m _ F (fun b hb => Nat.lt_of_lt_of_le (hF b hb) HBA.out.size) (h.keep ENode.stays (Keep.below HBA.out hF) (fun _ h => h)) hz hl)
  have HM0 : Hid (Blk (((w.alloc (.cells #[.int .i64 m.next, .slice A m.nodes.length c] 24)).alloc (.cells #[.string nm] 9)).alloc (.cells #[.int .i64 0, .slice none 0 0] 24)) w.heap.size 24 #[.int .i64 m.next, .slice A m.nodes.length c]) := Lib.hid (((Blk.new w _ _).alloc _).alloc _)
  have HN0 : Hid (Blk (((w.alloc (.cells #[.int .i64 m.next, .slice A m.nodes.length c] 24)).alloc (.cells #[.string nm] 9)).alloc (.cells #[.int .i64 0, .slice none 0 0] 24)) (w.heap.size + 1) 9 #[.string nm]) := Lib.hid ((Blk.new' (by simp)).alloc _)
  have HR0 : Hid (Blk (((w.alloc (.cells #[.int .i64 m.next, .slice A m.nodes.length c] 24)).alloc (.cells #[.string nm] 9)).alloc (.cells #[.int .i64 0, .slice none 0 0] 24)) (w.heap.size + 2) 24 #[.int .i64 0, .slice none 0 0]) := Lib.hid (Blk.new' (by simp))
  have HH := Lib.hid h; have HZ := Lib.hid hz; have HZ' := Lib.hid hz'
  clear h hz hz'
  obtain ⟨u0, hu0⟩ : ∃ u : World, ((w.alloc (.cells #[.int .i64 m.next, .slice A m.nodes.length c] 24)).alloc (.cells #[.string nm] 9)).alloc (.cells #[.int .i64 0, .slice none 0 0] 24) = u := ⟨_, rfl⟩
  rw [hu0] at HBA HC HM0 HR0 HN0
  have HU0 := Lib.hid hu0
  clear hu0
  have HB0 := HBA
  by_cases hc : CheckM m
  · have HC2 := Lib.hid (int_is (checkI_yes hc) HC.out)
    have HCM := Lib.hid hc
    have HS := Lib.hid hc.1.srtB
    have hl4 : m.nodes.length ≤ 4096 := hc.1.1.2.2
    have hnx : 1 ≤ m.next ∧ m.next ≤ 1048577 := ⟨hc.1.1.1, hc.1.1.2.1⟩
    clear hc HC
    rcases hwc : wordA nm with _ | _
    · have E := Lib.hid (show EE = 2 from HEE.out.symm.trans (setE_word HCM.out hwc))
      have HW := Lib.hid hwc
      clear hwc
      go_enter Try.func45, Try.ntmps45
      go_wp2_with fail
      (try rw [HU0.out])
      refine (HC2.out).mono ?_
      rintro _ u1 ⟨rfl, hb⟩
      have HB1 := Lib.hid (HB0.out.trans (hb.mono HB0.out.size))
      have HM1 := Lib.hid (HM0.out.below hb HM0.out.lt)
      have HR1 := Lib.hid (HR0.out.below hb HR0.out.lt)
      have HN1 := Lib.hid (HN0.out.below hb HN0.out.lt)
      clear hb
      have n0 := HN1.out.cell 0
      have hnlt := HN1.out.lt
      simp at n0
      go_wp2_with fail
      refine (aword_is hns HW.out u1).mono ?_
      rintro _ u2 ⟨rfl, hb⟩
      have HB2 := Lib.hid (HB1.out.trans (hb.mono HB1.out.size))
      have HM2 := Lib.hid (HM1.out.below hb HM1.out.lt)
      have HR2 := Lib.hid (HR1.out.below hb HR1.out.lt)
      have HN2 := Lib.hid (HN1.out.below hb HN1.out.lt)
      clear hb
      clear n0 hnlt
      have t0 := HR2.out.frozen 0; have t1 := HR2.out.frozen 1
      have r0 := HR2.out.cell 0; have r1 := HR2.out.cell 1
      have hrlt := HR2.out.lt
      simp at r0 r1
      go_wp2_with fail
      have hyS := (HR2.out.set_ 0 (.int .i64 0)).set_ 1 (.slice none 0 0)
      have f0 := hyS.cell 0; have f1 := hyS.cell 1
      simp at f0 f1
      have HBW := Lib.hid ((HB2.out.setCell (p := ⟨w.heap.size + 2, 0, none⟩) (by show w.heap.size ≤ w.heap.size + 2; omega) (.int .i64 0)).setCell (p := ⟨w.heap.size + 2, 1, none⟩) (by show w.heap.size ≤ w.heap.size + 2; omega) (.slice none 0 0))
      exact bodyPost_ret (v := .tuple #[.agg #[.int .i64 0, .slice none 0 0], .int .i64 (2)]) (by simp [results, Try.results45, go_sem, f0, f1]) rfl ⟨⟨_, rfl, Or.inl ⟨by rw [E.out]; decide, by rw [E.out]⟩⟩, HBW.out⟩
    · have HW := Lib.hid hwc
      clear hwc
      rcases atI_cases m.nodes id with ⟨j, hj, hj1, hj2⟩ | ⟨hj1, hj2⟩
      · have HAT := Lib.hid hj2
        have g4 : decide ((j : Int) < 0) = false := decide_eq_false (by omega)
        have E := Lib.hid (show EE = 0 from HEE.out.symm.trans (setE_ok HCM.out HW.out (fun h => h) (by rw [hj2]; omega)))
        clear hj2
        go_enter Try.func45, Try.ntmps45
        go_wp2_with fail
        (try rw [HU0.out])
        refine (HC2.out).mono ?_
        rintro _ u1 ⟨rfl, hb⟩
        have HB1 := Lib.hid (HB0.out.trans (hb.mono HB0.out.size))
        have HM1 := Lib.hid (HM0.out.below hb HM0.out.lt)
        have HR1 := Lib.hid (HR0.out.below hb HR0.out.lt)
        have HN1 := Lib.hid (HN0.out.below hb HN0.out.lt)
        clear hb
        have n0 := HN1.out.cell 0
        have hnlt := HN1.out.lt
        simp at n0
        go_wp2_with fail
        refine (aword_is hns HW.out u1).mono ?_
        rintro _ u2 ⟨rfl, hb⟩
        have HB2 := Lib.hid (HB1.out.trans (hb.mono HB1.out.size))
        have HM2 := Lib.hid (HM1.out.below hb HM1.out.lt)
        have HR2 := Lib.hid (HR1.out.below hb HR1.out.lt)
        have HN2 := Lib.hid (HN1.out.below hb HN1.out.lt)
        clear hb
        clear n0 hnlt
        have m0 := HM2.out.cell 0; have m1 := HM2.out.cell 1
        have hmlt := HM2.out.lt
        simp at m0 m1
        go_wp2_with fail
        refine (int_is HAT.out (place_any A c m.next id m.nodes u2 F (fun b hb => Nat.lt_of_lt_of_le (hF b hb) HB2.out.size) (HH.out.keep ENode.stays (Keep.below HB2.out hF) (fun _ h => h)) HS.out hid (by omega))).mono ?_
        rintro _ u3 ⟨rfl, hb⟩
        have HB3 := Lib.hid (HB2.out.trans (hb.mono HB2.out.size))
        have HM3 := Lib.hid (HM2.out.below hb HM2.out.lt)
        have HR3 := Lib.hid (HR2.out.below hb HR2.out.lt)
        have HN3 := Lib.hid (HN2.out.below hb HN2.out.lt)
        clear hb
        clear m0 m1 hmlt
        have m0 := HM3.out.cell 0; have m1 := HM3.out.cell 1
        have hmlt := HM3.out.lt
        simp at m0 m1
        go_wp2_with fail
        refine (twinA_any A c m u3 F (fun b hb => Nat.lt_of_lt_of_le (hF b hb) HB3.out.size) (HH.out.keep ENode.stays (Keep.below HB3.out hF) (fun _ h => h)) HZ'.out (by omega)).mono ?_
        rintro _ u4 ⟨vt, rfl, l, hown, hlm, hb⟩
        have HB4 := Lib.hid (HB3.out.trans (hb.mono HB3.out.size))
        have HM4 := Lib.hid (HM3.out.below hb HM3.out.lt)
        have HR4 := Lib.hid (HR3.out.below hb HR3.out.lt)
        have HN4 := Lib.hid (HN3.out.below hb HN3.out.lt)
        have HSZ := Lib.hid HB3.out.size
        have hll : l.length = m.nodes.length := by rw [← hlm]; simp
        have hjl : j < l.length := by omega
        obtain ⟨g, cv, rfl, hnc, hcm, hgb, hgw⟩ := own_some hown.row (by omega)
        obtain ⟨Y, hY⟩ : ∃ Y, l[j] = Y := ⟨_, rfl⟩
        have hYn : m.nodes[j] = Y.n := by
          have h1 : (l.map LN.n)[j]? = some Y.n := by rw [List.getElem?_map, List.getElem?_eq_getElem hjl, hY]; rfl
          rw [hlm, List.getElem?_eq_getElem hj] at h1
          injection h1
        rw [hll] at hown hnc ⊢
        have HO := Lib.hid hown; have HLM := Lib.hid hlm
        have HY := Lib.hid (show ∃ h : j < l.length, l[j]'h = Y from ⟨hjl, hY⟩)
        have HYN := Lib.hid (show ∃ h : j < m.nodes.length, m.nodes[j]'h = Y.n from ⟨hj, hYn⟩)
        have HJ1 := Lib.hid (show ∃ h : j < m.nodes.length, (m.nodes[j]'h).id = id from ⟨hj, hj1⟩)
        have HSN : Hid (SrtN ARef.role Y.n.refs) := Lib.hid (by rw [← hYn]; exact refs_srt (HCM.out.2.1 _ (List.getElem_mem hj)).2.2.2.2.2)
        have hLN : Y.n.refs.length ≤ 5864062014634 := by
          have := HZ'.out m.nodes[j] (List.getElem_mem hj)
          rw [hYn] at this
          unfold LensOK at this
          omega
        have HRS : Hid (w.heap.size + 2 < u3.heap.size) := Lib.hid HR3.out.lt
        clear hb hown hlm hll hjl hY hYn hj1 m0 m1 hmlt
        have m0 := HM4.out.cell 0; have m1 := HM4.out.cell 1
        have hmlt := HM4.out.lt
        simp at m0 m1
        go_upto_region 8 with fail
        obtain ⟨p, hp⟩ : ∃ p, u4.heap.size = p := ⟨_, rfl⟩
        obtain ⟨x1, hx1⟩ : ∃ z : World, u4.alloc (.cells #[.int .i64 m.next, .slice (some ⟨g, 0, none⟩) m.nodes.length cv] 24) = z := ⟨_, rfl⟩
        have HX : Hid (Below u4.heap.size u4 x1) := Lib.hid (by rw [← hx1]; exact (Below.refl _ _).alloc (Nat.le_refl _) _)
        have HP1 : Hid (Blk x1 p 24 #[.int .i64 m.next, .slice (some ⟨g, 0, none⟩) m.nodes.length cv]) := Lib.hid (by rw [← hx1, ← hp]; exact Blk.new _ _ _)
        have HO1 := Lib.hid (HO.out.below HX.out)
        have HB1x := Lib.hid (HB4.out.trans (HX.out.mono HB4.out.size))
        have HR1x := Lib.hid (HR4.out.below HX.out HR4.out.lt)
        have HN1x := Lib.hid (HN4.out.below HX.out HN4.out.lt)
        have HYB : Hid (∀ b, some b ∈ Y.blocks → u3.heap.size ≤ b ∧ b < p) := Lib.hid (fun b hb => by
          rw [← hp]
          obtain ⟨h1, h2⟩ := HY.out
          exact (HO.out.lists Y (by rw [← h2]; exact List.getElem_mem h1)).lt b hb)
        have hgp : g < p := by omega
        have hpw : w.heap.size + 2 < p := by have := HRS.out; omega
        (try rw [hx1])
        (try rw [hp])
        clear hx1 hp m0 m1 hmlt HO HX hgw
        have p0 := HP1.out.cell 0; have p1 := HP1.out.cell 1
        have hplt := HP1.out.lt
        simp at p0 p1
        have hj0 : (0 : Int) ≤ j := by omega
        have hj1 : (j : Int) < m.nodes.length := by omega
        have CP := Lib.hid (fun (d : Nat) (os : Array Obj) => Calls.regrown_of (w := x1) (d := d) (os := os) (by
          have ho := HO1.out.below (below_regrown x1 d os)
          have := place_any (some ⟨g, 0, none⟩) cv m.next id m.nodes (Sort.grow (redrawn x1 d) os) (fun b => u3.heap.size ≤ b ∧ b < (Sort.grow (redrawn x1 d) os).heap.size) (fun b hb => hb.2) (by rw [← HLM.out]; exact ho.rowOf (fun b h1 h2 => ⟨h1, h2⟩)) HS.out hid (by omega)
          rw [HAT.out] at this; exact this))
        have k0 := cell_regrown p0; have k1 := cell_regrown p1
        clear p0 p1
        refine wp_region_quiet_below (by kernel_rfl) (by kernel_rfl) ?_
        repeat (first | go_big_quiet_step (exact CP.out _ _) | quiet_step (exact CP.out _ _))
        refine wpQuiet_nil ?_
        intro _ hw'
        obtain ⟨⟨dq, osq⟩, hw''⟩ := hw'
        subst hw''
        have hbr := below_regrown x1 dq osq
        have HB2 := Lib.hid (HB1x.out.trans (hbr.mono HB1x.out.size))
        have HP2 := Lib.hid (HP1.out.below hbr hplt)
        have HR2 := Lib.hid (HR1x.out.below hbr HR1x.out.lt)
        have HN2 := Lib.hid (HN1x.out.below hbr HN1x.out.lt)
        have HO2 := Lib.hid (HO1.out.below hbr)
        have hbx2 : p < (Sort.grow (redrawn x1 dq) osq).heap.size := Nat.lt_of_lt_of_le hplt hbr.size
        clear k0 k1 CP hbr
        obtain ⟨x2, hu⟩ : ∃ z : World, Sort.grow (redrawn x1 dq) osq = z := ⟨_, rfl⟩
        rw [hu] at HB2 HP2 HR2 HO2 hbx2 HN2 ⊢
        clear hu hplt HO1 HP1 HB1x HR1x
        have hgx2 : g < x2.heap.size := by omega
        obtain ⟨hjl, hY⟩ := HY.out
        have hYm : Y ∈ l := by rw [← hY]; exact List.getElem_mem hjl
        have c4 := HO2.out.cell (i := j) (j := 6) hjl (by omega)
        rw [hY] at c4
        simp [LN.cells, nodeCellsA] at c4
        have z4 := HO2.out.frozen (j * 7 + 6)
        have hOL := (HO2.out.lists Y hYm).r
        obtain ⟨Ap, cp, hAp⟩ := own_shape hOL
        have HPR := Lib.hid (IsRow.of_own (F := fun b => b < x2.heap.size) refCells_len hOL (own_at hOL (fun b _ h => h)))
        have HOL := Lib.hid hOL
        have HAP := Lib.hid hAp
        have HYS : Hid (∀ b, Y.r.ownBlock = some b → u3.heap.size ≤ b ∧ b < p) := Lib.hid (fun b hb => HYB.out b (by simp [LN.blocks, hb]))
        have HGY : Hid (Y.r.ownBlock ≠ some g) := Lib.hid (fun e => HO2.out.row_ne hYm (b := g) (by rw [← e]; simp [LN.blocks]) rfl)
        rw [hAp] at c4
        clear hY hYm hOL hAp
        have n0 := HN2.out.cell 0
        have hnlt := HN2.out.lt
        simp at n0
        have HDEL := Lib.hid (delRef_any (.slice Ap Y.n.refs.length cp) Y.n.refs nm (w.heap.size + 1) x2 u3.heap.size (by rw [← HAP.out]; exact HOL.out) HN2.out (by rw [← HAP.out]; intro e; have := HYS.out _ e; have := HRS.out; omega) (by omega))
        unfold looseFn at HDEL
        go_wp2_with fail
        refine HDEL.out.mono ?_
        rintro _ x3 ⟨v', rfl, hown3, hg3, hat3⟩
        rw [← HAP.out] at hg3 hat3
        clear HDEL n0 hnlt c4 z4
        have hgg : x3.heap[g]? = x2.heap[g]? := hg3.block g hgx2 (fun e => HGY.out e.symm)
        obtain ⟨hjl, hY⟩ := HY.out
        have c4 : x3.cell? ⟨g, j * 7 + 6, none⟩ = some Y.r := by
          have h := HO2.out.cell (i := j) (j := 6) hjl (by omega)
          rw [hY] at h
          rw [World.cell?_of_block (w := x2) (a := ⟨g, j * 7 + 6, none⟩) hgg, h]
          simp [LN.cells, nodeCellsA]
        have z4 : x3.frozen? ⟨g, j * 7 + 6, none⟩ = false := by
          rw [World.frozen?_of_block (w := x2) (a := ⟨g, j * 7 + 6, none⟩) hgg]; exact HO2.out.frozen _
        have HB3 : Hid (Below w.heap.size w x3) := Lib.hid (HB2.out.grown hg3 (by omega) (fun b e => by have := HYS.out b e; have := HSZ.out; omega))
        have HP3 := Lib.hid (HP2.out.grown hg3 (fun e => by have := HYS.out _ e.symm; omega))
        have HR3 := Lib.hid (HR2.out.grown hg3 (fun e => by have := HYS.out _ e.symm; have := HRS.out; omega))
        have HO4 := Lib.hid (HO2.out.setRefs hjl hY (keepN ARef.role Y.n.refs nm) v' hg3 (.inl hat3) hown3)
        have HB4 := Lib.hid (HB3.out.setCell (p := ⟨g, j * 7 + 6, none⟩) (by have := HSZ.out; show w.heap.size ≤ g; omega) v')
        have HP4 := Lib.hid (HP3.out.far (p := ⟨g, j * 7 + 6, none⟩) (by show p ≠ g; omega) v')
        have HR4 := Lib.hid (HR3.out.far (p := ⟨g, j * 7 + 6, none⟩) (by have := HRS.out; show w.heap.size + 2 ≠ g; omega) v')
        obtain ⟨A', c', hv'⟩ := own_shape hown3
        subst hv'
        have hgx3 : g < x3.heap.size := by have := hg3.size; omega
        clear hgg hY hown3 hg3 hat3
        have HWE : Hid (∃ z, z = x3.setCell ⟨g, j * 7 + 6, none⟩ (.slice A' (keepN ARef.role Y.n.refs nm).length c')) := Lib.hid ⟨_, rfl⟩
        go_upto_region 10 with fail
        obtain ⟨x4, hx4⟩ := HWE.out
        rw [← hx4] at HO4 HB4 HP4 HR4
        (try rw [← hx4])
        clear hx4 HWE c4 z4
        have p0 := HP4.out.cell 0; have p1 := HP4.out.cell 1
        have hplt := HP4.out.lt
        simp at p0 p1
        have t0 := HR4.out.frozen 0; have t1 := HR4.out.frozen 1
        have r0 := HR4.out.cell 0; have r1 := HR4.out.cell 1
        have hrlt := HR4.out.lt
        simp at r0 r1
        go_wp2_with fail
        have hyS := (HR4.out.set_ 0 (.int .i64 m.next)).set_ 1 (.slice (some ⟨g, 0, none⟩) m.nodes.length cv)
        have f0 := hyS.cell 0; have f1 := hyS.cell 1
        simp at f0 f1
        have HBW := Lib.hid ((HB4.out.setCell (p := ⟨w.heap.size + 2, 0, none⟩) (by show w.heap.size ≤ w.heap.size + 2; omega) (.int .i64 m.next)).setCell (p := ⟨w.heap.size + 2, 1, none⟩) (by show w.heap.size ≤ w.heap.size + 2; omega) (.slice (some ⟨g, 0, none⟩) m.nodes.length cv))
        refine bodyPost_ret (v := .tuple #[.agg #[.int .i64 m.next, .slice (some ⟨g, 0, none⟩) m.nodes.length cv], .int .i64 0]) (by simp [results, Try.results45, go_sem, f0, f1]) rfl ⟨⟨_, rfl, Or.inr ⟨E.out, _, _, rfl, (HO4.out.keep (fun b h1 _ => ?_)).weaken HSZ.out, j, HJ1.out.1, HJ1.out.2, ?_⟩⟩, HBW.out⟩
        · have := HRS.out
          exact (Below.heap_setCell _ _ _ _ (by show b ≠ w.heap.size + 2; omega)).trans (Below.heap_setCell _ _ _ _ (by show b ≠ w.heap.size + 2; omega))
        · rw [List.map_set, HLM.out, HYN.out.2]; rfl
      · have HAT := Lib.hid hj2
        have E := Lib.hid (show EE = 20 from HEE.out.symm.trans (setE_node HCM.out HW.out (fun h => h) (by rw [hj2]; omega)))
        clear hj1 hj2
        go_enter Try.func45, Try.ntmps45
        go_wp2_with fail
        (try rw [HU0.out])
        refine (HC2.out).mono ?_
        rintro _ u1 ⟨rfl, hb⟩
        have HB1 := Lib.hid (HB0.out.trans (hb.mono HB0.out.size))
        have HM1 := Lib.hid (HM0.out.below hb HM0.out.lt)
        have HR1 := Lib.hid (HR0.out.below hb HR0.out.lt)
        have HN1 := Lib.hid (HN0.out.below hb HN0.out.lt)
        clear hb
        have n0 := HN1.out.cell 0
        have hnlt := HN1.out.lt
        simp at n0
        go_wp2_with fail
        refine (aword_is hns HW.out u1).mono ?_
        rintro _ u2 ⟨rfl, hb⟩
        have HB2 := Lib.hid (HB1.out.trans (hb.mono HB1.out.size))
        have HM2 := Lib.hid (HM1.out.below hb HM1.out.lt)
        have HR2 := Lib.hid (HR1.out.below hb HR1.out.lt)
        have HN2 := Lib.hid (HN1.out.below hb HN1.out.lt)
        clear hb
        clear n0 hnlt
        have m0 := HM2.out.cell 0; have m1 := HM2.out.cell 1
        have hmlt := HM2.out.lt
        simp at m0 m1
        go_wp2_with fail
        refine (int_is HAT.out (place_any A c m.next id m.nodes u2 F (fun b hb => Nat.lt_of_lt_of_le (hF b hb) HB2.out.size) (HH.out.keep ENode.stays (Keep.below HB2.out hF) (fun _ h => h)) HS.out hid (by omega))).mono ?_
        rintro _ u3 ⟨rfl, hb⟩
        have HB3 := Lib.hid (HB2.out.trans (hb.mono HB2.out.size))
        have HM3 := Lib.hid (HM2.out.below hb HM2.out.lt)
        have HR3 := Lib.hid (HR2.out.below hb HR2.out.lt)
        have HN3 := Lib.hid (HN2.out.below hb HN2.out.lt)
        clear hb
        clear m0 m1 hmlt
        have t0 := HR3.out.frozen 0; have t1 := HR3.out.frozen 1
        have r0 := HR3.out.cell 0; have r1 := HR3.out.cell 1
        have hrlt := HR3.out.lt
        simp at r0 r1
        go_wp2_with fail
        have hyS := (HR3.out.set_ 0 (.int .i64 0)).set_ 1 (.slice none 0 0)
        have f0 := hyS.cell 0; have f1 := hyS.cell 1
        simp at f0 f1
        have HBW := Lib.hid ((HB3.out.setCell (p := ⟨w.heap.size + 2, 0, none⟩) (by show w.heap.size ≤ w.heap.size + 2; omega) (.int .i64 0)).setCell (p := ⟨w.heap.size + 2, 1, none⟩) (by show w.heap.size ≤ w.heap.size + 2; omega) (.slice none 0 0))
        exact bodyPost_ret (v := .tuple #[.agg #[.int .i64 0, .slice none 0 0], .int .i64 (20)]) (by simp [results, Try.results45, go_sem, f0, f1]) rfl ⟨⟨_, rfl, Or.inl ⟨by rw [E.out]; decide, by rw [E.out]⟩⟩, HBW.out⟩
  · have HC2 := Lib.hid (int_is (checkI_no hc) HC.out)
    have E := Lib.hid (show EE = 29 from HEE.out.symm.trans (setE_check hc))
    clear hc HC
    go_enter Try.func45, Try.ntmps45
    go_wp2_with fail
    (try rw [HU0.out])
    refine (HC2.out).mono ?_
    rintro _ u1 ⟨rfl, hb⟩
    have HB1 := Lib.hid (HB0.out.trans (hb.mono HB0.out.size))
    have HM1 := Lib.hid (HM0.out.below hb HM0.out.lt)
    have HR1 := Lib.hid (HR0.out.below hb HR0.out.lt)
    have HN1 := Lib.hid (HN0.out.below hb HN0.out.lt)
    clear hb
    have t0 := HR1.out.frozen 0; have t1 := HR1.out.frozen 1
    have r0 := HR1.out.cell 0; have r1 := HR1.out.cell 1
    have hrlt := HR1.out.lt
    simp at r0 r1
    go_wp2_with fail
    have hyS := (HR1.out.set_ 0 (.int .i64 0)).set_ 1 (.slice none 0 0)
    have f0 := hyS.cell 0; have f1 := hyS.cell 1
    simp at f0 f1
    have HBW := Lib.hid ((HB1.out.setCell (p := ⟨w.heap.size + 2, 0, none⟩) (by show w.heap.size ≤ w.heap.size + 2; omega) (.int .i64 0)).setCell (p := ⟨w.heap.size + 2, 1, none⟩) (by show w.heap.size ≤ w.heap.size + 2; omega) (.slice none 0 0))
    exact bodyPost_ret (v := .tuple #[.agg #[.int .i64 0, .slice none 0 0], .int .i64 (29)]) (by simp [results, Try.results45, go_sem, f0, f1]) rfl ⟨⟨_, rfl, Or.inl ⟨by rw [E.out]; decide, by rw [E.out]⟩⟩, HBW.out⟩
end Go.Proofs.Ytmafhaadcjgcbaa
