import Derived.Test.YtpjkifbicfcajaaSetP
import Derived.Test.YtpjkifbicfcajaaTwinA
import Derived.Test.YtpjkifbicfcajaaAOrder
import Derived.Test.YtpjkifbicfcajaaEditP
import Derived.Test.YtpjkifbicfcajaaHTouch
import Derived.Test.YtpjkifbicfcajaaAwake
import Derived.Test.YtpjkifbicfcajaaHGreat
import Derived.Test.YtpjkifbicfcajaaHNew
import Derived.Test.YtpjkifbicfcajaaSetPA
import Derived.Test.YtpjkifbicfcajaaAddA
import Derived.Test.YtpjkifbicfcajaaHData
import Derived.Test.YtpjkifbicfcajaaRows
import Derived.HandedShaped
import Derived.ChangeMaps5
set_option linter.unusedSimpArgs false
set_option linter.unusedVariables false
section
namespace Go.Proofs.Ytpjkifbicfcajaa
open Go Go.RowKit

set_option maxRecDepth 100000 in
set_option maxHeartbeats 4000000 in
theorem dropA_any (A : Option Addr) (c : Nat) (m : AModel) (w : World) (F : Nat → Prop) (hF : ∀ b, F b → b < w.heap.size) (h : RowOf 7 ENode w F A m.nodes) (hz : ∀ x ∈ m.nodes, NodeOK x) (hz' : ∀ x ∈ m.nodes, LensOK x) (hl : m.nodes.length ≤ 9223372036854775807) (id : Int) (hid : InR id) (nm : ByteArray) (hns : nm.size ≤ 9223372036854775807)  :
    Calls Try.prog 36 #[.agg #[.int .i64 m.next, .slice A m.nodes.length c], .int .i64 id, .string nm] w fun e w' => (∃ v, e = .returned v ∧ SetAs w' w.heap.size m id (setE m nm False (atI m.nodes id < 0)) (dropN nm) v) ∧ Below w.heap.size w w' := by
  obtain ⟨EE, hEE⟩ : ∃ EE, setE m nm False (atI m.nodes id < 0) = EE := ⟨_, rfl⟩
  rw [hEE]
  have HEE := Lib.hid hEE
  clear hEE
  have HBA : Hid (Below w.heap.size w (((w.alloc (.cells #[.int .i64 m.next, .slice A m.nodes.length c] 27)).alloc (.cells #[.string nm] 9)).alloc (.cells #[.int .i64 0, .slice none 0 0] 27))) := Lib.hid ((((Below.refl w.heap.size w).alloc (Nat.le_refl _) _).alloc (by simp) _).alloc (by simp; omega) _)
  have HC := Lib.hid (check_any A c m _ F (fun b hb => Nat.lt_of_lt_of_le (hF b hb) HBA.out.size) (h.keep ENode.stays (Keep.below HBA.out hF) (fun _ h => h)) hz hl)
  have HM0 : Hid (Blk (((w.alloc (.cells #[.int .i64 m.next, .slice A m.nodes.length c] 27)).alloc (.cells #[.string nm] 9)).alloc (.cells #[.int .i64 0, .slice none 0 0] 27)) w.heap.size 27 #[.int .i64 m.next, .slice A m.nodes.length c]) := Lib.hid (((Blk.new w _ _).alloc _).alloc _)
  have HN0 : Hid (Blk (((w.alloc (.cells #[.int .i64 m.next, .slice A m.nodes.length c] 27)).alloc (.cells #[.string nm] 9)).alloc (.cells #[.int .i64 0, .slice none 0 0] 27)) (w.heap.size + 1) 9 #[.string nm]) := Lib.hid ((Blk.new' (by simp)).alloc _)
  have HR0 : Hid (Blk (((w.alloc (.cells #[.int .i64 m.next, .slice A m.nodes.length c] 27)).alloc (.cells #[.string nm] 9)).alloc (.cells #[.int .i64 0, .slice none 0 0] 27)) (w.heap.size + 2) 27 #[.int .i64 0, .slice none 0 0]) := Lib.hid (Blk.new' (by simp))
  have HH := Lib.hid h; have HZ := Lib.hid hz; have HZ' := Lib.hid hz'
  clear h hz hz'
  obtain ⟨u0, hu0⟩ : ∃ u : World, ((w.alloc (.cells #[.int .i64 m.next, .slice A m.nodes.length c] 27)).alloc (.cells #[.string nm] 9)).alloc (.cells #[.int .i64 0, .slice none 0 0] 27) = u := ⟨_, rfl⟩
  rw [hu0] at HBA HC HM0 HR0 HN0
  have HU0 := Lib.hid hu0
  clear hu0
  have HB0 := HBA
  by_cases hc : CheckM m
  · have HC2 := Lib.hid (int_is (checkI_yes hc) HC.out)
    have HCM := Lib.hid hc
    have HS := Lib.hid hc.1.srtB
    have hl4 : m.nodes.length ≤ 4096 := hc.1.1.2.2
    have hnx : 1 ≤ m.next ∧ m.next ≤ 1048577 := ⟨hc.1.1.1, hc.1.1.2.1⟩
    clear hc HC
    rcases hwc : wordA nm with _ | _
    · have E := Lib.hid (show EE = 2 from HEE.out.symm.trans (setE_word HCM.out hwc))
      have HW := Lib.hid hwc
      clear hwc
      go_enter Try.func36, Try.ntmps36
      go_wp2_with fail
      (try rw [HU0.out])
      refine (HC2.out).mono ?_
      rintro _ u1 ⟨rfl, hb⟩
      have HB1 := Lib.hid (HB0.out.trans (hb.mono HB0.out.size))
      have HM1 := Lib.hid (HM0.out.below hb HM0.out.lt)
      have HR1 := Lib.hid (HR0.out.below hb HR0.out.lt)
      have HN1 := Lib.hid (HN0.out.below hb HN0.out.lt)
      clear hb
      have n0 := HN1.out.cell 0
      have hnlt := HN1.out.lt
      simp at n0
      go_wp2_with fail
      refine (aword_is hns HW.out u1).mono ?_
      rintro _ u2 ⟨rfl, hb⟩
      have HB2 := Lib.hid (HB1.out.trans (hb.mono HB1.out.size))
      have HM2 := Lib.hid (HM1.out.below hb HM1.out.lt)
      have HR2 := Lib.hid (HR1.out.below hb HR1.out.lt)
      have HN2 := Lib.hid (HN1.out.below hb HN1.out.lt)
      clear hb
      clear n0 hnlt
      have t0 := HR2.out.frozen 0; have t1 := HR2.out.frozen 1
      have r0 := HR2.out.cell 0; have r1 := HR2.out.cell 1
      have hrlt := HR2.out.lt
      simp at r0 r1
      go_wp2_with fail
      have hyS := (HR2.out.set_ 0 (.int .i64 0)).set_ 1 (.slice none 0 0)
      have f0 := hyS.cell 0; have f1 := hyS.cell 1
      simp at f0 f1
      have HBW := Lib.hid ((HB2.out.setCell (p := ⟨w.heap.size + 2, 0, none⟩) (by show w.heap.size ≤ w.heap.size + 2; omega) (.int .i64 0)).setCell (p := ⟨w.heap.size + 2, 1, none⟩) (by show w.heap.size ≤ w.heap.size + 2; omega) (.slice none 0 0))
      exact bodyPost_ret (v := .tuple #[.agg #[.int .i64 0, .slice none 0 0], .int .i64 (2)]) (by simp [results, Try.results36, go_sem, f0, f1]) rfl ⟨⟨_, rfl, Or.inl ⟨by rw [E.out]; decide, by rw [E.out]⟩⟩, HBW.out⟩
    · have HW := Lib.hid hwc
      clear hwc
      rcases atI_cases m.nodes id with ⟨j, hj, hj1, hj2⟩ | ⟨hj1, hj2⟩
      · have HAT := Lib.hid hj2
        have g4 : decide ((j : Int) < 0) = false := decide_eq_false (by omega)
        have E := Lib.hid (show EE = 0 from HEE.out.symm.trans (setE_ok HCM.out HW.out (fun h => h) (by rw [hj2]; omega)))
        clear hj2
        go_enter Try.func36, Try.ntmps36
        go_wp2_with fail
        (try rw [HU0.out])
        refine (HC2.out).mono ?_
        rintro _ u1 ⟨rfl, hb⟩
        have HB1 := Lib.hid (HB0.out.trans (hb.mono HB0.out.size))
        have HM1 := Lib.hid (HM0.out.below hb HM0.out.lt)
        have HR1 := Lib.hid (HR0.out.below hb HR0.out.lt)
        have HN1 := Lib.hid (HN0.out.below hb HN0.out.lt)
        clear hb
        have n0 := HN1.out.cell 0
        have hnlt := HN1.out.lt
        simp at n0
        go_wp2_with fail
        refine (aword_is hns HW.out u1).mono ?_
        rintro _ u2 ⟨rfl, hb⟩
        have HB2 := Lib.hid (HB1.out.trans (hb.mono HB1.out.size))
        have HM2 := Lib.hid (HM1.out.below hb HM1.out.lt)
        have HR2 := Lib.hid (HR1.out.below hb HR1.out.lt)
        have HN2 := Lib.hid (HN1.out.below hb HN1.out.lt)
        clear hb
        clear n0 hnlt
        have m0 := HM2.out.cell 0; have m1 := HM2.out.cell 1
        have hmlt := HM2.out.lt
        simp at m0 m1
        go_wp2_with fail
        refine (int_is HAT.out (place_any A c m.next id m.nodes u2 F (fun b hb => Nat.lt_of_lt_of_le (hF b hb) HB2.out.size) (HH.out.keep ENode.stays (Keep.below HB2.out hF) (fun _ h => h)) HS.out hid (by omega))).mono ?_
        rintro _ u3 ⟨rfl, hb⟩
        have HB3 := Lib.hid (HB2.out.trans (hb.mono HB2.out.size))
        have HM3 := Lib.hid (HM2.out.below hb HM2.out.lt)
        have HR3 := Lib.hid (HR2.out.below hb HR2.out.lt)
        have HN3 := Lib.hid (HN2.out.below hb HN2.out.lt)
        clear hb
        clear m0 m1 hmlt
        have m0 := HM3.out.cell 0; have m1 := HM3.out.cell 1
        have hmlt := HM3.out.lt
        simp at m0 m1
        go_wp2_with fail
        refine (twinA_any A c m u3 F (fun b hb => Nat.lt_of_lt_of_le (hF b hb) HB3.out.size) (HH.out.keep ENode.stays (Keep.below HB3.out hF) (fun _ h => h)) HZ'.out (by omega)).mono ?_
        rintro _ u4 ⟨vt, rfl, l, hown, hlm, hb⟩
        have HB4 := Lib.hid (HB3.out.trans (hb.mono HB3.out.size))
        have HM4 := Lib.hid (HM3.out.below hb HM3.out.lt)
        have HR4 := Lib.hid (HR3.out.below hb HR3.out.lt)
        have HN4 := Lib.hid (HN3.out.below hb HN3.out.lt)
        have HSZ := Lib.hid HB3.out.size
        have hll : l.length = m.nodes.length := by rw [← hlm]; simp
        have hjl : j < l.length := by omega
        obtain ⟨g, cv, rfl, hnc, hcm, hgb, hgw⟩ := own_some hown.row (by omega)
        obtain ⟨Y, hY⟩ : ∃ Y, l[j] = Y := ⟨_, rfl⟩
        have hYn : m.nodes[j] = Y.n := by
          have h1 : (l.map LN.n)[j]? = some Y.n := by rw [List.getElem?_map, List.getElem?_eq_getElem hjl, hY]; rfl
          rw [hlm, List.getElem?_eq_getElem hj] at h1
          injection h1
        rw [hll] at hown hnc ⊢
        have HO := Lib.hid hown; have HLM := Lib.hid hlm
        have HY := Lib.hid (show ∃ h : j < l.length, l[j]'h = Y from ⟨hjl, hY⟩)
        have HYN := Lib.hid (show ∃ h : j < m.nodes.length, m.nodes[j]'h = Y.n from ⟨hj, hYn⟩)
        have HJ1 := Lib.hid (show ∃ h : j < m.nodes.length, (m.nodes[j]'h).id = id from ⟨hj, hj1⟩)
        have HSN : Hid (SrtN AProp.name Y.n.props) := Lib.hid (by rw [← hYn]; exact props_srt (HCM.out.2.1 _ (List.getElem_mem hj)).2.2.2.2.1)
        have hLN : Y.n.props.length ≤ 4398046510976 := by
          have := HZ'.out m.nodes[j] (List.getElem_mem hj)
          rw [hYn] at this
          unfold LensOK at this
          omega
        have HRS : Hid (w.heap.size + 2 < u3.heap.size) := Lib.hid HR3.out.lt
        clear hb hown hlm hll hjl hY hYn hj1 m0 m1 hmlt
        have m0 := HM4.out.cell 0; have m1 := HM4.out.cell 1
        have hmlt := HM4.out.lt
        simp at m0 m1
        go_upto_region 8 with fail
        obtain ⟨p, hp⟩ : ∃ p, u4.heap.size = p := ⟨_, rfl⟩
        obtain ⟨x1, hx1⟩ : ∃ z : World, u4.alloc (.cells #[.int .i64 m.next, .slice (some ⟨g, 0, none⟩) m.nodes.length cv] 27) = z := ⟨_, rfl⟩
        have HX : Hid (Below u4.heap.size u4 x1) := Lib.hid (by rw [← hx1]; exact (Below.refl _ _).alloc (Nat.le_refl _) _)
        have HP1 : Hid (Blk x1 p 27 #[.int .i64 m.next, .slice (some ⟨g, 0, none⟩) m.nodes.length cv]) := Lib.hid (by rw [← hx1, ← hp]; exact Blk.new _ _ _)
        have HO1 := Lib.hid (HO.out.below HX.out)
        have HB1x := Lib.hid (HB4.out.trans (HX.out.mono HB4.out.size))
        have HR1x := Lib.hid (HR4.out.below HX.out HR4.out.lt)
        have HN1x := Lib.hid (HN4.out.below HX.out HN4.out.lt)
        have HYB : Hid (∀ b, some b ∈ Y.blocks → u3.heap.size ≤ b ∧ b < p) := Lib.hid (fun b hb => by
          rw [← hp]
          obtain ⟨h1, h2⟩ := HY.out
          exact (HO.out.lists Y (by rw [← h2]; exact List.getElem_mem h1)).lt b hb)
        have hgp : g < p := by omega
        have hpw : w.heap.size + 2 < p := by have := HRS.out; omega
        (try rw [hx1])
        (try rw [hp])
        clear hx1 hp m0 m1 hmlt HO HX hgw
        have p0 := HP1.out.cell 0; have p1 := HP1.out.cell 1
        have hplt := HP1.out.lt
        simp at p0 p1
        have hj0 : (0 : Int) ≤ j := by omega
        have hj1 : (j : Int) < m.nodes.length := by omega
        have CP := Lib.hid (fun (d : Nat) (os : Array Obj) => Calls.regrown_of (w := x1) (d := d) (os := os) (by
          have ho := HO1.out.below (below_regrown x1 d os)
          have := place_any (some ⟨g, 0, none⟩) cv m.next id m.nodes (Sort.grow (redrawn x1 d) os) (fun b => u3.heap.size ≤ b ∧ b < (Sort.grow (redrawn x1 d) os).heap.size) (fun b hb => hb.2) (by rw [← HLM.out]; exact ho.rowOf (fun b h1 h2 => ⟨h1, h2⟩)) HS.out hid (by omega)
          rw [HAT.out] at this; exact this))
        have k0 := cell_regrown p0; have k1 := cell_regrown p1
        clear p0 p1
        refine wp_region_quiet_below (by kernel_rfl) (by kernel_rfl) ?_
        repeat (first | go_big_quiet_step (exact CP.out _ _) | quiet_step (exact CP.out _ _))
        refine wpQuiet_nil ?_
        intro _ hw'
        obtain ⟨⟨dq, osq⟩, hw''⟩ := hw'
        subst hw''
        have hbr := below_regrown x1 dq osq
        have HB2 := Lib.hid (HB1x.out.trans (hbr.mono HB1x.out.size))
        have HP2 := Lib.hid (HP1.out.below hbr hplt)
        have HR2 := Lib.hid (HR1x.out.below hbr HR1x.out.lt)
        have HN2 := Lib.hid (HN1x.out.below hbr HN1x.out.lt)
        have HO2 := Lib.hid (HO1.out.below hbr)
        have hbx2 : p < (Sort.grow (redrawn x1 dq) osq).heap.size := Nat.lt_of_lt_of_le hplt hbr.size
        clear k0 k1 CP hbr
        obtain ⟨x2, hu⟩ : ∃ z : World, Sort.grow (redrawn x1 dq) osq = z := ⟨_, rfl⟩
        rw [hu] at HB2 HP2 HR2 HO2 hbx2 HN2 ⊢
        clear hu hplt HO1 HP1 HB1x HR1x
        have hgx2 : g < x2.heap.size := by omega
        obtain ⟨hjl, hY⟩ := HY.out
        have hYm : Y ∈ l := by rw [← hY]; exact List.getElem_mem hjl
        have c4 := HO2.out.cell (i := j) (j := 4) hjl (by omega)
        rw [hY] at c4
        simp [LN.cells, nodeCellsA] at c4
        have z4 := HO2.out.frozen (j * 7 + 4)
        have hOL := (HO2.out.lists Y hYm).p
        obtain ⟨Ap, cp, hAp⟩ := own_shape hOL
        have HPR := Lib.hid (IsRow.of_own (F := fun b => b < x2.heap.size) propCells_len hOL (own_at hOL (fun b _ h => h)))
        have HOL := Lib.hid hOL
        have HAP := Lib.hid hAp
        have HYS : Hid (∀ b, Y.p.ownBlock = some b → u3.heap.size ≤ b ∧ b < p) := Lib.hid (fun b hb => HYB.out b (by simp [LN.blocks, hb]))
        have HGY : Hid (Y.p.ownBlock ≠ some g) := Lib.hid (fun e => HO2.out.row_ne hYm (b := g) (by rw [← e]; simp [LN.blocks]) rfl)
        rw [hAp] at c4
        clear hY hYm hOL hAp
        have n0 := HN2.out.cell 0
        have hnlt := HN2.out.lt
        simp at n0
        have HDEL := Lib.hid (delProp_any (.slice Ap Y.n.props.length cp) Y.n.props nm (w.heap.size + 1) x2 u3.heap.size (by rw [← HAP.out]; exact HOL.out) HN2.out (by rw [← HAP.out]; intro e; have := HYS.out _ e; have := HRS.out; omega) (by omega))
        unfold dropFn at HDEL
        go_wp2_with fail
        refine HDEL.out.mono ?_
        rintro _ x3 ⟨v', rfl, hown3, hg3, hat3⟩
        rw [← HAP.out] at hg3 hat3
        clear HDEL n0 hnlt c4 z4
        have hgg : x3.heap[g]? = x2.heap[g]? := hg3.block g hgx2 (fun e => HGY.out e.symm)
        obtain ⟨hjl, hY⟩ := HY.out
        have c4 : x3.cell? ⟨g, j * 7 + 4, none⟩ = some Y.p := by
          have h := HO2.out.cell (i := j) (j := 4) hjl (by omega)
          rw [hY] at h
          rw [World.cell?_of_block (w := x2) (a := ⟨g, j * 7 + 4, none⟩) hgg, h]
          simp [LN.cells, nodeCellsA]
        have z4 : x3.frozen? ⟨g, j * 7 + 4, none⟩ = false := by
          rw [World.frozen?_of_block (w := x2) (a := ⟨g, j * 7 + 4, none⟩) hgg]; exact HO2.out.frozen _
        have HB3 : Hid (Below w.heap.size w x3) := Lib.hid (HB2.out.grown hg3 (by omega) (fun b e => by have := HYS.out b e; have := HSZ.out; omega))
        have HP3 := Lib.hid (HP2.out.grown hg3 (fun e => by have := HYS.out _ e.symm; omega))
        have HR3 := Lib.hid (HR2.out.grown hg3 (fun e => by have := HYS.out _ e.symm; have := HRS.out; omega))
        have HO4 := Lib.hid (HO2.out.setProps hjl hY (keepN AProp.name Y.n.props nm) v' hg3 (.inl hat3) hown3)
        have HB4 := Lib.hid (HB3.out.setCell (p := ⟨g, j * 7 + 4, none⟩) (by have := HSZ.out; show w.heap.size ≤ g; omega) v')
        have HP4 := Lib.hid (HP3.out.far (p := ⟨g, j * 7 + 4, none⟩) (by show p ≠ g; omega) v')
        have HR4 := Lib.hid (HR3.out.far (p := ⟨g, j * 7 + 4, none⟩) (by have := HRS.out; show w.heap.size + 2 ≠ g; omega) v')
        obtain ⟨A', c', hv'⟩ := own_shape hown3
        subst hv'
        have hgx3 : g < x3.heap.size := by have := hg3.size; omega
        clear hgg hY hown3 hg3 hat3
        have HWE : Hid (∃ z, z = x3.setCell ⟨g, j * 7 + 4, none⟩ (.slice A' (keepN AProp.name Y.n.props nm).length c')) := Lib.hid ⟨_, rfl⟩
        go_upto_region 10 with fail
        obtain ⟨x4, hx4⟩ := HWE.out
        rw [← hx4] at HO4 HB4 HP4 HR4
        (try rw [← hx4])
        clear hx4 HWE c4 z4
        have p0 := HP4.out.cell 0; have p1 := HP4.out.cell 1
        have hplt := HP4.out.lt
        simp at p0 p1
        have t0 := HR4.out.frozen 0; have t1 := HR4.out.frozen 1
        have r0 := HR4.out.cell 0; have r1 := HR4.out.cell 1
        have hrlt := HR4.out.lt
        simp at r0 r1
        go_wp2_with fail
        have hyS := (HR4.out.set_ 0 (.int .i64 m.next)).set_ 1 (.slice (some ⟨g, 0, none⟩) m.nodes.length cv)
        have f0 := hyS.cell 0; have f1 := hyS.cell 1
        simp at f0 f1
        have HBW := Lib.hid ((HB4.out.setCell (p := ⟨w.heap.size + 2, 0, none⟩) (by show w.heap.size ≤ w.heap.size + 2; omega) (.int .i64 m.next)).setCell (p := ⟨w.heap.size + 2, 1, none⟩) (by show w.heap.size ≤ w.heap.size + 2; omega) (.slice (some ⟨g, 0, none⟩) m.nodes.length cv))
        refine bodyPost_ret (v := .tuple #[.agg #[.int .i64 m.next, .slice (some ⟨g, 0, none⟩) m.nodes.length cv], .int .i64 0]) (by simp [results, Try.results36, go_sem, f0, f1]) rfl ⟨⟨_, rfl, Or.inr ⟨E.out, _, _, rfl, (HO4.out.keep (fun b h1 _ => ?_)).weaken HSZ.out, j, HJ1.out.1, HJ1.out.2, ?_⟩⟩, HBW.out⟩
        · have := HRS.out
          exact (Below.heap_setCell _ _ _ _ (by show b ≠ w.heap.size + 2; omega)).trans (Below.heap_setCell _ _ _ _ (by show b ≠ w.heap.size + 2; omega))
        · rw [List.map_set, HLM.out, HYN.out.2]; rfl
      · have HAT := Lib.hid hj2
        have E := Lib.hid (show EE = 20 from HEE.out.symm.trans (setE_node HCM.out HW.out (fun h => h) (by rw [hj2]; omega)))
        clear hj1 hj2
        go_enter Try.func36, Try.ntmps36
        go_wp2_with fail
        (try rw [HU0.out])
        refine (HC2.out).mono ?_
        rintro _ u1 ⟨rfl, hb⟩
        have HB1 := Lib.hid (HB0.out.trans (hb.mono HB0.out.size))
        have HM1 := Lib.hid (HM0.out.below hb HM0.out.lt)
        have HR1 := Lib.hid (HR0.out.below hb HR0.out.lt)
        have HN1 := Lib.hid (HN0.out.below hb HN0.out.lt)
        clear hb
        have n0 := HN1.out.cell 0
        have hnlt := HN1.out.lt
        simp at n0
        go_wp2_with fail
        refine (aword_is hns HW.out u1).mono ?_
        rintro _ u2 ⟨rfl, hb⟩
        have HB2 := Lib.hid (HB1.out.trans (hb.mono HB1.out.size))
        have HM2 := Lib.hid (HM1.out.below hb HM1.out.lt)
        have HR2 := Lib.hid (HR1.out.below hb HR1.out.lt)
        have HN2 := Lib.hid (HN1.out.below hb HN1.out.lt)
        clear hb
        clear n0 hnlt
        have m0 := HM2.out.cell 0; have m1 := HM2.out.cell 1
        have hmlt := HM2.out.lt
        simp at m0 m1
        go_wp2_with fail
        refine (int_is HAT.out (place_any A c m.next id m.nodes u2 F (fun b hb => Nat.lt_of_lt_of_le (hF b hb) HB2.out.size) (HH.out.keep ENode.stays (Keep.below HB2.out hF) (fun _ h => h)) HS.out hid (by omega))).mono ?_
        rintro _ u3 ⟨rfl, hb⟩
        have HB3 := Lib.hid (HB2.out.trans (hb.mono HB2.out.size))
        have HM3 := Lib.hid (HM2.out.below hb HM2.out.lt)
        have HR3 := Lib.hid (HR2.out.below hb HR2.out.lt)
        have HN3 := Lib.hid (HN2.out.below hb HN2.out.lt)
        clear hb
        clear m0 m1 hmlt
        have t0 := HR3.out.frozen 0; have t1 := HR3.out.frozen 1
        have r0 := HR3.out.cell 0; have r1 := HR3.out.cell 1
        have hrlt := HR3.out.lt
        simp at r0 r1
        go_wp2_with fail
        have hyS := (HR3.out.set_ 0 (.int .i64 0)).set_ 1 (.slice none 0 0)
        have f0 := hyS.cell 0; have f1 := hyS.cell 1
        simp at f0 f1
        have HBW := Lib.hid ((HB3.out.setCell (p := ⟨w.heap.size + 2, 0, none⟩) (by show w.heap.size ≤ w.heap.size + 2; omega) (.int .i64 0)).setCell (p := ⟨w.heap.size + 2, 1, none⟩) (by show w.heap.size ≤ w.heap.size + 2; omega) (.slice none 0 0))
        exact bodyPost_ret (v := .tuple #[.agg #[.int .i64 0, .slice none 0 0], .int .i64 (20)]) (by simp [results, Try.results36, go_sem, f0, f1]) rfl ⟨⟨_, rfl, Or.inl ⟨by rw [E.out]; decide, by rw [E.out]⟩⟩, HBW.out⟩
  · have HC2 := Lib.hid (int_is (checkI_no hc) HC.out)
    have E := Lib.hid (show EE = 29 from HEE.out.symm.trans (setE_check hc))
    clear hc HC
    go_enter Try.func36, Try.ntmps36
    go_wp2_with fail
    (try rw [HU0.out])
    refine (HC2.out).mono ?_
    rintro _ u1 ⟨rfl, hb⟩
    have HB1 := Lib.hid (HB0.out.trans (hb.mono HB0.out.size))
    have HM1 := Lib.hid (HM0.out.below hb HM0.out.lt)
    have HR1 := Lib.hid (HR0.out.below hb HR0.out.lt)
    have HN1 := Lib.hid (HN0.out.below hb HN0.out.lt)
    clear hb
    have t0 := HR1.out.frozen 0; have t1 := HR1.out.frozen 1
    have r0 := HR1.out.cell 0; have r1 := HR1.out.cell 1
    have hrlt := HR1.out.lt
    simp at r0 r1
    go_wp2_with fail
    have hyS := (HR1.out.set_ 0 (.int .i64 0)).set_ 1 (.slice none 0 0)
    have f0 := hyS.cell 0; have f1 := hyS.cell 1
    simp at f0 f1
    have HBW := Lib.hid ((HB1.out.setCell (p := ⟨w.heap.size + 2, 0, none⟩) (by show w.heap.size ≤ w.heap.size + 2; omega) (.int .i64 0)).setCell (p := ⟨w.heap.size + 2, 1, none⟩) (by show w.heap.size ≤ w.heap.size + 2; omega) (.slice none 0 0))
    exact bodyPost_ret (v := .tuple #[.agg #[.int .i64 0, .slice none 0 0], .int .i64 (29)]) (by simp [results, Try.results36, go_sem, f0, f1]) rfl ⟨⟨_, rfl, Or.inl ⟨by rw [E.out]; decide, by rw [E.out]⟩⟩, HBW.out⟩

end Go.Proofs.Ytpjkifbicfcajaa
end
section
/- what an edit answers, in plain Lean: the model is right, its texts are bounded, and what is touched is told -/
namespace Go.Proofs.Ytpjkifbicfcajaa
open Go Go.RowKit

section
variable {m : AModel} {nm val role concept : ByteArray} {id parent a : Int} {j : Nat}
open Classical in
theorem setE_zero {lg no : Prop} (h : setE m nm lg no = 0) : CheckM m ∧ wordA nm = true ∧ ¬ lg := by
  unfold setE at h
  by_cases hc : CheckM m
  · rw [if_neg (fun e => e hc)] at h
    by_cases hw : wordA nm = false
    · rw [if_pos hw] at h; cases h
    · rw [if_neg hw] at h
      by_cases hl : lg
      · rw [if_pos hl] at h; cases h
      · exact ⟨hc, by simpa using hw, hl⟩
  · rw [if_pos hc] at h; cases h
theorem mid_of {b : AModel} (hc : CheckM b) (hn : ∀ x ∈ b.nodes, NodeOK x) : ModMid b := by
  refine ⟨fun x hx => ⟨hn x hx, ?_⟩, by have := hc.1.1.2.2; omega⟩
  obtain ⟨i, hi, rfl⟩ := List.getElem_of_mem hx
  have h1 := hc.1.2 i hi
  have h2 := hc.1.1.2.1
  unfold InR; omega
theorem put_ok (hj : j < m.nodes.length) (hz : ∀ x ∈ m.nodes, NodeOK x) (hns : nm.size ≤ 9223372036854775807) {no : Prop} (h : setE m nm (4096 < val.size) no = 0) :
    ModMid ⟨m.next, m.nodes.set j (putN nm val m.nodes[j])⟩ ∧ touchE m ⟨m.next, m.nodes.set j (putN nm val m.nodes[j])⟩ = 0 ∧ (touchL m ⟨m.next, m.nodes.set j (putN nm val m.nodes[j])⟩ = [] ∨ touchL m ⟨m.next, m.nodes.set j (putN nm val m.nodes[j])⟩ = [m.nodes[j].id]) := by
  obtain ⟨h1, h2, h3⟩ := setE_zero h
  have hc := put_check h1 hj h2 (val := val) (by omega)
  refine ⟨mid_of hc fun x hx => ?_, touchE_yes (checkI_yes h1) (checkI_yes hc), set_touch h1 hj rfl hc⟩
  rcases List.mem_or_eq_of_mem_set (show x ∈ m.nodes.set j (putN nm val m.nodes[j]) from hx) with e | e
  · exact hz x e
  · subst e
    obtain ⟨⟨a1, a2, a3, a4⟩, a5, a6⟩ := hz _ (List.getElem_mem hj)
    refine ⟨⟨a1, a2, fun p hp => ?_, a4⟩, a5, a6⟩
    rcases setK_mem (show p ∈ setK AProp.name m.nodes[j].props nm ⟨nm, val⟩ from hp) with e | e
    · exact a3 p e
    · subst e; exact ⟨hns, by show val.size ≤ _; omega⟩
theorem drop_ok (hj : j < m.nodes.length) (hz : ∀ x ∈ m.nodes, NodeOK x) {lg no : Prop} (h : setE m nm lg no = 0) :
    ModMid ⟨m.next, m.nodes.set j (dropN nm m.nodes[j])⟩ ∧ touchE m ⟨m.next, m.nodes.set j (dropN nm m.nodes[j])⟩ = 0 ∧ (touchL m ⟨m.next, m.nodes.set j (dropN nm m.nodes[j])⟩ = [] ∨ touchL m ⟨m.next, m.nodes.set j (dropN nm m.nodes[j])⟩ = [m.nodes[j].id]) := by
  obtain ⟨h1, h2, h3⟩ := setE_zero h
  have hc := drop_check h1 hj (nm := nm)
  refine ⟨mid_of hc fun x hx => ?_, touchE_yes (checkI_yes h1) (checkI_yes hc), set_touch h1 hj rfl hc⟩
  rcases List.mem_or_eq_of_mem_set (show x ∈ m.nodes.set j (dropN nm m.nodes[j]) from hx) with e | e
  · exact hz x e
  · subst e
    obtain ⟨⟨a1, a2, a3, a4⟩, a5, a6⟩ := hz _ (List.getElem_mem hj)
    exact ⟨⟨a1, a2, fun p hp => a3 p (List.mem_filter.1 (show p ∈ keepN AProp.name m.nodes[j].props nm from hp)).1, a4⟩, a5, a6⟩
open Classical in
theorem addE_zero (h : addE m parent role a concept = 0) : CheckM m ∧ wordA concept = true ∧ (parent ≠ 0 → wordA role = true) := by
  unfold addE at h
  by_cases hc : CheckM m
  · rw [if_neg (fun e => e hc)] at h
    by_cases hw : wordA concept = false ∨ (parent ≠ 0 ∧ wordA role = false)
    · rw [if_pos hw] at h; cases h
    · refine ⟨hc, ?_, fun hp => ?_⟩
      · cases e : wordA concept
        · exact absurd (.inl e) hw
        · rfl
      · cases e : wordA role
        · exact absurd (.inr ⟨hp, e⟩) hw
        · rfl
  · rw [if_pos hc] at h; cases h
theorem new_ok (hz : ∀ x ∈ m.nodes, NodeOK x) (hcs : concept.size ≤ 9223372036854775807) (hrs : role.size ≤ 9223372036854775807) (hp : InR parent) : NodeOK (newN m concept parent role) :=
  ⟨⟨hcs, hrs, fun _ h => (by cases h), fun _ h => (by cases h)⟩, hp, fun _ h => (by cases h)⟩
open Classical in
theorem addRoot_ok (hz : ∀ x ∈ m.nodes, NodeOK x) (hcs : concept.size ≤ 9223372036854775807) (h : addE m 0 role a concept = 0) : ModMid (addRoot m concept) ∧ touchE m (addRoot m concept) = 0 ∧ touchL m (addRoot m concept) = [m.next] := by
  obtain ⟨h1, h2, _⟩ := addE_zero h
  rw [addE_root h1 h2] at h
  have hr : rootE role a = 0 := by
    by_cases e : rootE role a = 0
    · exact e
    · rw [if_pos e] at h; exact h
  rw [if_neg (fun e => e hr)] at h
  have hn : ¬ (m.nodes.length = 4096 ∨ 1048576 < m.next) := fun e => by rw [if_pos e] at h; cases h
  have hle := h1.1.1.2.2
  have hc := addRoot_check h1 h2 (by omega) (by omega)
  refine ⟨mid_of hc fun x hx => ?_, touchE_yes (checkI_yes h1) (checkI_yes hc), addRoot_touch h1 hc⟩
  rcases List.mem_append.1 (show x ∈ m.nodes ++ [newN m concept 0 ⟨#[]⟩] from hx) with e | e
  · exact hz x e
  · rw [List.mem_singleton.1 e]; exact new_ok hz hcs (Nat.zero_le _) ⟨by omega, by omega⟩
open Classical in
theorem addKid_ok (hj : j < m.nodes.length) (hid : m.nodes[j].id = parent) (hz : ∀ x ∈ m.nodes, NodeOK x) (hcs : concept.size ≤ 9223372036854775807) (hrs : role.size ≤ 9223372036854775807) (hp : parent ≠ 0) (h : addE m parent role a concept = 0) (i : Nat) :
    ModMid (addKid m j m.nodes[j] i concept role) ∧ touchE m (addKid m j m.nodes[j] i concept role) = 0 ∧ touchL m (addKid m j m.nodes[j] i concept role) = [parent, m.next] := by
  obtain ⟨h1, h2, h3⟩ := addE_zero h
  have hw := h3 hp
  obtain ⟨d, hd64, hd⟩ := Dep.of_up 64 _ (List.getElem_mem hj) (h1.2.2.2.2 _ (List.getElem_mem hj))
  subst hid
  rw [addE_kid h1 h2 (List.getElem_mem hj) hw hd] at h
  obtain ⟨sp, hsp⟩ : ∃ s, spotI m.nodes[j].kids (inL m m.nodes[j] role) a = s := ⟨_, rfl⟩
  rw [hsp] at h
  have hr : kidE sp d 1 = 0 := by
    by_cases e : kidE sp d 1 = 0
    · exact e
    · rw [if_pos e] at h; exact h
  rw [if_neg (fun e => e hr)] at h
  have hn : ¬ (m.nodes.length = 4096 ∨ 1048576 < m.next) := fun e => by rw [if_pos e] at h; cases h
  have hd2 : d ≤ 63 := by
    unfold kidE at hr
    split at hr
    · split at hr
      · cases hr
      · omega
    · cases hr
  have hle := h1.1.1.2.2
  have hnl := h1.1.1.1
  have hc := addKid_check h1 hj h2 hw (by omega) (by omega) hd hd2 i
  refine ⟨mid_of hc fun x hx => ?_, touchE_yes (checkI_yes h1) (checkI_yes hc), addKid_touch h1 hj hc⟩
  have hjz := hz _ (List.getElem_mem hj)
  have hji := id_less h1 (List.getElem_mem hj)
  have hj1 := (h1.1.2 j hj).1
  have hn2 := h1.1.1.2.1
  rcases List.mem_append.1 (show x ∈ m.nodes.set j { m.nodes[j] with kids := insAt m.nodes[j].kids i m.next } ++ [newN m concept m.nodes[j].id role] from hx) with e | e
  · rcases List.mem_or_eq_of_mem_set e with e | e
    · exact hz x e
    · subst e
      refine ⟨hjz.1, hjz.2.1, fun k hk => ?_⟩
      rcases List.mem_append.1 (show k ∈ (m.nodes[j].kids.take i) ++ m.next :: m.nodes[j].kids.drop i from hk) with e | e
      · exact hjz.2.2 k (List.mem_of_mem_take e)
      · rcases List.mem_cons.1 e with e | e
        · rw [e]; unfold InR; omega
        · exact hjz.2.2 k (List.mem_of_mem_drop e)
  · rw [List.mem_singleton.1 e]; exact new_ok hz hcs hrs (by unfold InR; omega)
end
end Go.Proofs.Ytpjkifbicfcajaa
end
section
/- the law of what an edit touches -/
namespace Go.Proofs.Ytpjkifbicfcajaa
open Go Go.RowKit

set_option maxRecDepth 100000 in
set_option maxHeartbeats 8000000 in
theorem edits_any (va : Value) (m : AModel) (id : Int) (nm val : ByteArray) (w : World) (h : IsModel w (fun b => b < w.heap.size) va m) (hz : ModAll m) (hid : InR id) (hns : nm.size ≤ 9223372036854775807) (hvs : val.size ≤ 9223372036854775807) :
    Calls Try.prog 9 #[va, .int .i64 id, .string nm, .string val] w fun e w' => e = .returned (.bool true) ∧ Below w.heap.size w w' := by
  obtain ⟨_, rfl, A, c, rfl, ca1, ca2, ra⟩ := h
  have HRA := Lib.hid (fun (w0 : World) (hb0 : Below w.heap.size w w0) => RowOf.keep ENode.stays (Keep.below hb0 fun _ h => h) (F' := fun b => b < w.heap.size) (fun _ h => h) ra)
  have HLW := Lib.hid (fun (w0 : World) (hb0 : Below w.heap.size w w0) (b : Nat) (hb : b < w.heap.size) => Nat.lt_of_lt_of_le hb hb0.size)
  have HZ := Lib.hid hz
  have HZN := Lib.hid (fun x hx => (hz.1 x hx).1)
  have hna : m.nodes.length ≤ 1172812402926 := hz.2.2
  clear ra hz
  obtain ⟨v, hv⟩ : ∃ v : World, w.alloc (.cells #[.int .i64 m.next, .slice A m.nodes.length c] 27) = v := ⟨_, rfl⟩
  have HB1 : Hid (Below w.heap.size w v) := Lib.hid (by rw [← hv]; exact (Below.refl w.heap.size w).alloc (Nat.le_refl _) _)
  have HX1 : Hid (Blk v w.heap.size 27 #[.int .i64 m.next, .slice A m.nodes.length c]) := Lib.hid (by rw [← hv]; exact Blk.new _ _ _)
  go_enter Try.func9, Try.ntmps9
  go_upto_region 1 with fail
  (try rw [hv])
  clear hv
  go_wp2_with fail
  refine (awake_any v).mono ?_
  rintro _ w2 ⟨rfl, hb⟩
  have HB2 := Lib.hid (HB1.out.trans (hb.mono HB1.out.size))
  have HX2 := Lib.hid (HX1.out.below hb HX1.out.lt)
  clear hb
  clear HB1 HX1
  have x0 := HX2.out.cell 0; have x1 := HX2.out.cell 1
  have hxlt := HX2.out.lt
  simp at x0 x1
  obtain ⟨s, hs⟩ : ∃ x, w2.heap.size = x := ⟨_, rfl⟩
  have HWE : Hid (∃ z, w2.alloc (.cells #[.int .i64 m.next, .slice A m.nodes.length c] 27) = z) := Lib.hid ⟨_, rfl⟩
  go_wp2_with fail
  obtain ⟨w3, hw3⟩ := HWE.out
  have HS3 : Hid (Blk w3 s 27 #[.int .i64 m.next, .slice A m.nodes.length c]) := Lib.hid (by rw [← hw3]; exact Blk.new' hs.symm)
  have hb : Below w2.heap.size w2 w3 := by rw [← hw3]; exact (Below.refl _ _).alloc (Nat.le_refl _) _
  (try rw [hs])
  (try rw [hw3])
  have HB3 := Lib.hid (HB2.out.trans (hb.mono HB2.out.size))
  have HX3 := Lib.hid (HX2.out.below hb HX2.out.lt)
  clear HWE hw3 hs hb
  clear HB2 HX2
  clear x0 x1 hxlt
  refine (great_any (some ⟨s, 0, none⟩) 1 [m] w3 (fun b => b < w3.heap.size) (fun _ h => h) (one_model HS3.out ⟨_, _, rfl, ca1, ca2, RowOf.keep ENode.stays (Keep.refl _ _) (HLW.out w3 HB3.out) (HRA.out w3 HB3.out)⟩ HS3.out.lt) (fun y hy => by
    rcases List.mem_cons.1 hy with rfl | hy
    · exact HZ.out
    · cases hy) (by simp)).mono ?_
  rintro _ w4 ⟨⟨gb, rfl⟩, hb⟩
  have HB4 := Lib.hid (HB3.out.trans (hb.mono HB3.out.size))
  have HX4 := Lib.hid (HX3.out.below hb HX3.out.lt)
  clear hb HS3
  clear HB3 HX3
  have x0 := HX4.out.cell 0; have x1 := HX4.out.cell 1
  have hxlt := HX4.out.lt
  simp at x0 x1
  cases gb
  case true =>
    go_wp2
    go_ret
    exact ⟨by simp, HB4.out⟩
  case false =>
    go_wp2_with fail
    clear x0 x1 hxlt
    refine (putA_any A c m w4 (fun b => b < w.heap.size) (HLW.out _ HB4.out) (HRA.out _ HB4.out) HZN.out (fun x hx => (HZ.out.1 x hx).2.1) (by omega) id hid nm hns val hvs).mono ?_
    rintro _ w4a ⟨⟨v4, rfl, hset⟩, hb⟩
    have HB4a := Lib.hid (HB4.out.trans (hb.mono HB4.out.size))
    have HX4a := Lib.hid (HX4.out.below hb HX4.out.lt)
    clear hb
    clear HB4 HX4
    rcases hset with ⟨hE, rfl⟩ | ⟨hE, vl, l, rfl, hown, j, hj, hji, hl⟩
    focus
      obtain ⟨E, hEE⟩ : ∃ E, setE m nm (4096 < val.size) (atI m.nodes id < 0) = E := ⟨_, rfl⟩
      rw [hEE] at hE ⊢
      have hE0 : (E == 0) = false := by simpa using hE
      clear hEE hE
      obtain ⟨pP, hpP⟩ : ∃ x, w4a.heap.size = x := ⟨_, rfl⟩
      have HWE : Hid (∃ z, w4a.alloc (.cells #[.int .i64 0, .slice none 0 0] 27) = z) := Lib.hid ⟨_, rfl⟩
      go_upto_region 6 with fail
      obtain ⟨w4b, hww4b⟩ := HWE.out
      have hnew : Blk w4b pP 27 #[.int .i64 0, .slice none 0 0] := by rw [← hww4b]; exact Blk.new' hpP.symm
      have hb : Below w4a.heap.size w4a w4b := by rw [← hww4b]; exact (Below.refl _ _).alloc (Nat.le_refl _) _
      (try rw [hww4b])
      (try rw [hpP])
      clear HWE hww4b hpP
      clear hnew
      have HB4b := Lib.hid (HB4a.out.trans (hb.mono HB4a.out.size))
      have HX4b := Lib.hid (HX4a.out.below hb HX4a.out.lt)
      clear hb
      clear HB4a HX4a
      have x0 := HX4b.out.cell 0; have x1 := HX4b.out.cell 1
      have hxlt := HX4b.out.lt
      simp at x0 x1
      go_wp2_with fail
      clear x0 x1 hxlt
      obtain ⟨w5, hw5⟩ : ∃ x, x = w4b := ⟨_, rfl⟩
      subst hw5
      have HB5 := HB4b; have HX5 := HX4b
      clear HB4b HX4b
    rotate_left 1
    focus
      obtain ⟨Al, cl, rfl, _, hcl, hrow⟩ := hown.isRow (F := fun b => b < w4a.heap.size) (fun b _ h => h)
      obtain ⟨hmid, hTE, hTL⟩ := put_ok hj HZN.out hns hE
      clear hE hown
      rw [hji] at hTL
      obtain ⟨bb, hbb⟩ : ∃ b : AModel, (⟨m.next, m.nodes.set j (putN nm val m.nodes[j])⟩ : AModel) = b := ⟨_, rfl⟩
      have hbn : bb.next = m.next := by rw [← hbb]
      have hbl : l.map LN.n = bb.nodes := by rw [hl, ← hbb]
      rw [hbb] at hmid hTE hTL
      rw [hbl] at hrow ⊢
      have HROW := Lib.hid hrow; have HMID := Lib.hid hmid; have HTE := Lib.hid hTE; have HTL := Lib.hid hTL; have HBN := Lib.hid hbn
      clear hrow hmid hTE hTL hbb hbn hbl hl hji hj
      have hbl2 : bb.nodes.length ≤ 1172812402926 := HMID.out.2
      obtain ⟨pP, hpP⟩ : ∃ x, w4a.heap.size = x := ⟨_, rfl⟩
      have HWE : Hid (∃ z, w4a.alloc (.cells #[.int .i64 m.next, .slice Al bb.nodes.length cl] 27) = z) := Lib.hid ⟨_, rfl⟩
      go_upto_region 6 with fail
      obtain ⟨w4b, hww4b⟩ := HWE.out
      have hnew : Blk w4b pP 27 #[.int .i64 m.next, .slice Al bb.nodes.length cl] := by rw [← hww4b]; exact Blk.new' hpP.symm
      have hb : Below w4a.heap.size w4a w4b := by rw [← hww4b]; exact (Below.refl _ _).alloc (Nat.le_refl _) _
      (try rw [hww4b])
      (try rw [hpP])
      clear HWE hww4b hpP
      have HP := Lib.hid hnew
      have HROW2 := Lib.hid (HROW.out.keep ENode.stays (Keep.below hb (fun _ h => h)) (F' := fun x => x < w4b.heap.size) (fun _ h => Nat.lt_of_lt_of_le h hb.size))
      clear hnew HROW
      have HB4b := Lib.hid (HB4a.out.trans (hb.mono HB4a.out.size))
      have HX4b := Lib.hid (HX4a.out.below hb HX4a.out.lt)
      clear hb
      clear HB4a HX4a
      have x0 := HX4b.out.cell 0; have x1 := HX4b.out.cell 1
      have hxlt := HX4b.out.lt
      simp at x0 x1
      have p0 := HP.out.cell 0; have p1 := HP.out.cell 1
      simp at p0 p1
      go_wp2_with fail
      clear p0 p1 HP
      clear x0 x1 hxlt
      have htu := htouched_mid A Al c cl m bb w4b (fun x => x < w4b.heap.size) (fun _ h => h) (RowOf.keep ENode.stays (Keep.refl _ _) (HLW.out _ HB4b.out) (HRA.out _ HB4b.out)) HROW2.out HZ.out HMID.out
      rw [HBN.out] at htu
      refine htu.mono ?_
      clear htu
      rintro _ w4c ⟨v4c, rfl, ho, hb⟩
      have HB4c := Lib.hid (HB4b.out.trans (hb.mono HB4b.out.size))
      have HX4c := Lib.hid (HX4b.out.below hb HX4b.out.lt)
      clear hb HROW2 HMID HBN
      clear HB4b HX4b
      rw [HTE.out]
      obtain ⟨LL, hLL⟩ : ∃ L, touchL m bb = L := ⟨_, rfl⟩
      rw [hLL] at ho HTL
      clear hLL HTE
      rcases HTL.out with rfl | rfl
      focus
        obtain ⟨A1, d1, rfl⟩ := ho.shape
        clear ho HTL
        simp only [List.length_nil]
        have x0 := HX4c.out.cell 0; have x1 := HX4c.out.cell 1
        have hxlt := HX4c.out.lt
        simp at x0 x1
        go_wp2_with fail
        clear x0 x1 hxlt
        obtain ⟨w5, hw5⟩ : ∃ x, x = w4c := ⟨_, rfl⟩
        subst hw5
        have HB5 := HB4c; have HX5 := HX4c
        clear HB4c HX4c
      rotate_left 1
      focus
        obtain ⟨A1, d1, rfl⟩ := ho.shape
        have R1 := (ho.isRow (F := fun b => b < w4c.heap.size) (fun b _ h => h)).row
        obtain ⟨b1, off1, rfl, _, q1⟩ := int_at R1 (show 0 < [id].length by simp)
        simp only [List.getElem_cons_zero, Nat.add_zero] at q1
        have hne : (id != id) = false := by simp
        clear ho HTL R1
        simp only [List.length_cons, List.length_nil]
        have x0 := HX4c.out.cell 0; have x1 := HX4c.out.cell 1
        have hxlt := HX4c.out.lt
        simp at x0 x1
        go_wp2_with fail
        clear hne q1
        clear x0 x1 hxlt
        obtain ⟨w5, hw5⟩ : ∃ x, x = w4c := ⟨_, rfl⟩
        subst hw5
        have HB5 := HB4c; have HX5 := HX4c
        clear HB4c HX4c
    all_goals
      refine (dropA_any A c m w5 (fun b => b < w.heap.size) (HLW.out _ HB5.out) (HRA.out _ HB5.out) HZN.out (fun x hx => (HZ.out.1 x hx).2.1) (by omega) id hid nm hns).mono ?_
      rintro _ w5a ⟨⟨v5, rfl, hset⟩, hb⟩
      have HB5a := Lib.hid (HB5.out.trans (hb.mono HB5.out.size))
      have HX5a := Lib.hid (HX5.out.below hb HX5.out.lt)
      clear hb
      clear HB5 HX5
      rcases hset with ⟨hE, rfl⟩ | ⟨hE, vl, l, rfl, hown, j, hj, hji, hl⟩
      focus
        obtain ⟨E, hEE⟩ : ∃ E, setE m nm False (atI m.nodes id < 0) = E := ⟨_, rfl⟩
        rw [hEE] at hE ⊢
        have hE0 : (E == 0) = false := by simpa using hE
        clear hEE hE
        obtain ⟨pP, hpP⟩ : ∃ x, w5a.heap.size = x := ⟨_, rfl⟩
        have HWE : Hid (∃ z, w5a.alloc (.cells #[.int .i64 0, .slice none 0 0] 27) = z) := Lib.hid ⟨_, rfl⟩
        go_upto_region 11 with fail
        obtain ⟨w5b, hww5b⟩ := HWE.out
        have hnew : Blk w5b pP 27 #[.int .i64 0, .slice none 0 0] := by rw [← hww5b]; exact Blk.new' hpP.symm
        have hb : Below w5a.heap.size w5a w5b := by rw [← hww5b]; exact (Below.refl _ _).alloc (Nat.le_refl _) _
        (try rw [hww5b])
        (try rw [hpP])
        clear HWE hww5b hpP
        clear hnew
        have HB5b := Lib.hid (HB5a.out.trans (hb.mono HB5a.out.size))
        have HX5b := Lib.hid (HX5a.out.below hb HX5a.out.lt)
        clear hb
        clear HB5a HX5a
        have x0 := HX5b.out.cell 0; have x1 := HX5b.out.cell 1
        have hxlt := HX5b.out.lt
        simp at x0 x1
        go_wp2_with fail
        clear x0 x1 hxlt
        obtain ⟨w6, hw6⟩ : ∃ x, x = w5b := ⟨_, rfl⟩
        subst hw6
        have HB6 := HB5b; have HX6 := HX5b
        clear HB5b HX5b
      rotate_left 1
      focus
        obtain ⟨Al, cl, rfl, _, hcl, hrow⟩ := hown.isRow (F := fun b => b < w5a.heap.size) (fun b _ h => h)
        obtain ⟨hmid, hTE, hTL⟩ := drop_ok hj HZN.out hE
        clear hE hown
        rw [hji] at hTL
        obtain ⟨bb, hbb⟩ : ∃ b : AModel, (⟨m.next, m.nodes.set j (dropN nm m.nodes[j])⟩ : AModel) = b := ⟨_, rfl⟩
        have hbn : bb.next = m.next := by rw [← hbb]
        have hbl : l.map LN.n = bb.nodes := by rw [hl, ← hbb]
        rw [hbb] at hmid hTE hTL
        rw [hbl] at hrow ⊢
        have HROW := Lib.hid hrow; have HMID := Lib.hid hmid; have HTE := Lib.hid hTE; have HTL := Lib.hid hTL; have HBN := Lib.hid hbn
        clear hrow hmid hTE hTL hbb hbn hbl hl hji hj
        have hbl2 : bb.nodes.length ≤ 1172812402926 := HMID.out.2
        obtain ⟨pP, hpP⟩ : ∃ x, w5a.heap.size = x := ⟨_, rfl⟩
        have HWE : Hid (∃ z, w5a.alloc (.cells #[.int .i64 m.next, .slice Al bb.nodes.length cl] 27) = z) := Lib.hid ⟨_, rfl⟩
        go_upto_region 11 with fail
        obtain ⟨w5b, hww5b⟩ := HWE.out
        have hnew : Blk w5b pP 27 #[.int .i64 m.next, .slice Al bb.nodes.length cl] := by rw [← hww5b]; exact Blk.new' hpP.symm
        have hb : Below w5a.heap.size w5a w5b := by rw [← hww5b]; exact (Below.refl _ _).alloc (Nat.le_refl _) _
        (try rw [hww5b])
        (try rw [hpP])
        clear HWE hww5b hpP
        have HP := Lib.hid hnew
        have HROW2 := Lib.hid (HROW.out.keep ENode.stays (Keep.below hb (fun _ h => h)) (F' := fun x => x < w5b.heap.size) (fun _ h => Nat.lt_of_lt_of_le h hb.size))
        clear hnew HROW
        have HB5b := Lib.hid (HB5a.out.trans (hb.mono HB5a.out.size))
        have HX5b := Lib.hid (HX5a.out.below hb HX5a.out.lt)
        clear hb
        clear HB5a HX5a
        have x0 := HX5b.out.cell 0; have x1 := HX5b.out.cell 1
        have hxlt := HX5b.out.lt
        simp at x0 x1
        have p0 := HP.out.cell 0; have p1 := HP.out.cell 1
        simp at p0 p1
        go_wp2_with fail
        clear p0 p1 HP
        clear x0 x1 hxlt
        have htu := htouched_mid A Al c cl m bb w5b (fun x => x < w5b.heap.size) (fun _ h => h) (RowOf.keep ENode.stays (Keep.refl _ _) (HLW.out _ HB5b.out) (HRA.out _ HB5b.out)) HROW2.out HZ.out HMID.out
        rw [HBN.out] at htu
        refine htu.mono ?_
        clear htu
        rintro _ w5c ⟨v5c, rfl, ho, hb⟩
        have HB5c := Lib.hid (HB5b.out.trans (hb.mono HB5b.out.size))
        have HX5c := Lib.hid (HX5b.out.below hb HX5b.out.lt)
        clear hb HROW2 HMID HBN
        clear HB5b HX5b
        rw [HTE.out]
        obtain ⟨LL, hLL⟩ : ∃ L, touchL m bb = L := ⟨_, rfl⟩
        rw [hLL] at ho HTL
        clear hLL HTE
        rcases HTL.out with rfl | rfl
        focus
          obtain ⟨A1, d1, rfl⟩ := ho.shape
          clear ho HTL
          simp only [List.length_nil]
          have x0 := HX5c.out.cell 0; have x1 := HX5c.out.cell 1
          have hxlt := HX5c.out.lt
          simp at x0 x1
          go_wp2_with fail
          clear x0 x1 hxlt
          obtain ⟨w6, hw6⟩ : ∃ x, x = w5c := ⟨_, rfl⟩
          subst hw6
          have HB6 := HB5c; have HX6 := HX5c
          clear HB5c HX5c
        rotate_left 1
        focus
          obtain ⟨A1, d1, rfl⟩ := ho.shape
          have R1 := (ho.isRow (F := fun b => b < w5c.heap.size) (fun b _ h => h)).row
          obtain ⟨b1, off1, rfl, _, q1⟩ := int_at R1 (show 0 < [id].length by simp)
          simp only [List.getElem_cons_zero, Nat.add_zero] at q1
          have hne : (id != id) = false := by simp
          clear ho HTL R1
          simp only [List.length_cons, List.length_nil]
          have x0 := HX5c.out.cell 0; have x1 := HX5c.out.cell 1
          have hxlt := HX5c.out.lt
          simp at x0 x1
          go_wp2_with fail
          clear hne q1
          clear x0 x1 hxlt
          obtain ⟨w6, hw6⟩ : ∃ x, x = w5c := ⟨_, rfl⟩
          subst hw6
          have HB6 := HB5c; have HX6 := HX5c
          clear HB5c HX5c
    all_goals
      refine (addA_any A c m w6 (fun b => b < w.heap.size) (HLW.out _ HB6.out) (HRA.out _ HB6.out) HZN.out (fun x hx => (HZ.out.1 x hx).2.1) (by omega) id hid nm hns 0 (by unfold InR; omega) ⟨#[65]⟩ (by decide)).mono ?_
      rintro _ w6a ⟨⟨v6, rfl, hset⟩, hb⟩
      have HB6a := Lib.hid (HB6.out.trans (hb.mono HB6.out.size))
      have HX6a := Lib.hid (HX6.out.below hb HX6.out.lt)
      clear hb
      clear HB6 HX6
      rcases hset with ⟨E, hE, hEE, rfl⟩ | ⟨hE, vl, l, rfl, hown, hcase⟩
      · have hE0 : (E != 0) = true := by simpa using hE
        clear hEE hE
        obtain ⟨pP, hpP⟩ : ∃ x, w6a.heap.size = x := ⟨_, rfl⟩
        have HWE : Hid (∃ z, w6a.alloc (.cells #[.int .i64 0, .slice none 0 0] 27) = z) := Lib.hid ⟨_, rfl⟩
        go_upto_region 16 with fail
        obtain ⟨w6b, hww6b⟩ := HWE.out
        have hnew : Blk w6b pP 27 #[.int .i64 0, .slice none 0 0] := by rw [← hww6b]; exact Blk.new' hpP.symm
        have hb : Below w6a.heap.size w6a w6b := by rw [← hww6b]; exact (Below.refl _ _).alloc (Nat.le_refl _) _
        (try rw [hww6b])
        (try rw [hpP])
        clear HWE hww6b hpP
        clear hnew
        have HB6b := Lib.hid (HB6a.out.trans (hb.mono HB6a.out.size))
        have HX6b := Lib.hid (HX6a.out.below hb HX6a.out.lt)
        clear hb
        clear HB6a HX6a
        go_wp2
        go_ret
        exact ⟨by simp, HB6b.out⟩
      · obtain ⟨Al, cl, rfl, _, hcl, hrow⟩ := hown.isRow (F := fun b => b < w6a.heap.size) (fun b _ h => h)
        have hmore : ∃ bb : AModel, bb.next = m.next + 1 ∧ l.map LN.n = bb.nodes ∧ ModMid bb ∧ touchE m bb = 0 ∧ ((id = 0 ∧ touchL m bb = [m.next]) ∨ (id ≠ 0 ∧ touchL m bb = [id, m.next])) := by
          rcases hcase with ⟨hp, hl⟩ | ⟨hp, j, hj, hji, i, _, hl⟩
          · subst hp
            obtain ⟨k1, k2, k3⟩ := addRoot_ok HZN.out (by decide) hE
            exact ⟨_, rfl, hl, k1, k2, .inl ⟨rfl, k3⟩⟩
          · obtain ⟨k1, k2, k3⟩ := addKid_ok hj hji HZN.out (by decide) hns hp hE i
            exact ⟨_, rfl, hl, k1, k2, .inr ⟨hp, k3⟩⟩
        clear hcase hE hown
        obtain ⟨bb, hbn, hbl, hmid, hTE, hTL⟩ := hmore
        rw [hbl] at hrow ⊢
        have HROW := Lib.hid hrow; have HMID := Lib.hid hmid; have HTE := Lib.hid hTE; have HTL := Lib.hid hTL; have HBN := Lib.hid hbn
        clear hrow hmid hTE hTL hbn hbl
        have hbl2 : bb.nodes.length ≤ 1172812402926 := HMID.out.2
        obtain ⟨N1, hN1⟩ : ∃ n, m.next + 1 = n := ⟨_, rfl⟩
        rw [hN1] at HBN ⊢
        clear hN1
        obtain ⟨pP, hpP⟩ : ∃ x, w6a.heap.size = x := ⟨_, rfl⟩
        have HWE : Hid (∃ z, w6a.alloc (.cells #[.int .i64 N1, .slice Al bb.nodes.length cl] 27) = z) := Lib.hid ⟨_, rfl⟩
        go_upto_region 16 with fail
        obtain ⟨w6b, hww6b⟩ := HWE.out
        have hnew : Blk w6b pP 27 #[.int .i64 N1, .slice Al bb.nodes.length cl] := by rw [← hww6b]; exact Blk.new' hpP.symm
        have hb : Below w6a.heap.size w6a w6b := by rw [← hww6b]; exact (Below.refl _ _).alloc (Nat.le_refl _) _
        (try rw [hww6b])
        (try rw [hpP])
        clear HWE hww6b hpP
        have HP := Lib.hid hnew
        have HROW2 := Lib.hid (HROW.out.keep ENode.stays (Keep.below hb (fun _ h => h)) (F' := fun x => x < w6b.heap.size) (fun _ h => Nat.lt_of_lt_of_le h hb.size))
        clear hnew HROW
        have HB6b := Lib.hid (HB6a.out.trans (hb.mono HB6a.out.size))
        have HX6b := Lib.hid (HX6a.out.below hb HX6a.out.lt)
        clear hb
        clear HB6a HX6a
        have x0 := HX6b.out.cell 0; have x1 := HX6b.out.cell 1
        have hxlt := HX6b.out.lt
        simp at x0 x1
        have p0 := HP.out.cell 0; have p1 := HP.out.cell 1
        simp at p0 p1
        go_wp2_with fail
        clear p0 p1 HP
        clear x0 x1 hxlt
        have htu := htouched_mid A Al c cl m bb w6b (fun x => x < w6b.heap.size) (fun _ h => h) (RowOf.keep ENode.stays (Keep.refl _ _) (HLW.out _ HB6b.out) (HRA.out _ HB6b.out)) HROW2.out HZ.out HMID.out
        rw [HBN.out] at htu
        refine htu.mono ?_
        clear htu
        rintro _ w6c ⟨v6c, rfl, ho, hb⟩
        have HB6c := Lib.hid (HB6b.out.trans (hb.mono HB6b.out.size))
        have HX6c := Lib.hid (HX6b.out.below hb HX6b.out.lt)
        clear hb HROW2 HMID HBN HX6c
        clear HB6b HX6b
        rw [HTE.out]
        obtain ⟨LL, hLL⟩ : ∃ L, touchL m bb = L := ⟨_, rfl⟩
        rw [hLL] at ho HTL
        clear hLL HTE
        rcases HTL.out with ⟨h0, rfl⟩ | ⟨h0, rfl⟩
        · obtain ⟨A1, d1, rfl⟩ := ho.shape
          have R1 := (ho.isRow (F := fun b => b < w6c.heap.size) (fun b _ h => h)).row
          obtain ⟨b1, off1, rfl, _, q1⟩ := int_at R1 (show 0 < [m.next].length by simp)
          simp only [List.getElem_cons_zero, Nat.add_zero] at q1
          have hid0 : (id == 0) = true := by simpa using h0
          have hne : (m.next == m.next) = true := by simp
          clear ho HTL R1 h0
          simp only [List.length_cons, List.length_nil]
          obtain ⟨N0, hN0⟩ : ∃ n, m.next = n := ⟨_, rfl⟩
          rw [hN0] at q1 hne ⊢
          clear hN0
          go_wp2
          go_ret
          exact ⟨by simp, HB6c.out⟩
        · obtain ⟨A1, d1, rfl⟩ := ho.shape
          have R1 := (ho.isRow (F := fun b => b < w6c.heap.size) (fun b _ h => h)).row
          obtain ⟨b1, off1, rfl, _, q1⟩ := int_at R1 (show 0 < [id, m.next].length by simp)
          obtain ⟨b2, off2, e2, _, q2⟩ := int_at R1 (show 1 < [id, m.next].length by simp)
          injection e2 with e2
          injection e2 with e2a e2b
          subst e2a; subst e2b
          simp only [List.getElem_cons_zero, List.getElem_cons_succ, Nat.add_zero] at q1 q2
          have hid0 : (id == 0) = false := by simpa using h0
          have hne : (m.next == m.next) = true := by simp
          have hne2 : (id == id) = true := by simp
          clear ho HTL R1 h0
          simp only [List.length_cons, List.length_nil]
          obtain ⟨N0, hN0⟩ : ∃ n, m.next = n := ⟨_, rfl⟩
          rw [hN0] at q2 hne ⊢
          clear hN0
          go_wp2
          go_ret
          exact ⟨by simp, HB6c.out⟩
end Go.Proofs.Ytpjkifbicfcajaa
end
section
/- a model that is an argument, its count too -/
namespace Go.Proofs.Ytpjkifbicfcajaa
open Go.ChangeShapes Go.WideShapes Go.ChangeAt Go.RowKit Go.Deep

section
variable {H : Type} {enc : TypeId × Value → H} {w : World} {base : Nat} {spare : Nat → Bool} {held : Bool}
set_option maxRecDepth 100000 in
/-- a model that is an argument, its count too -/
theorem model_all {r : Reach} {b0 : Nat} {v : Value} {d : DataW H} {ps : List MemPlace} (hval : Value.okWide Try.prog w r b0 27 v) (h : DataW.Trod enc Try.prog w base spare held 27 v d ps) (hw : WtOK Try.prog 27 d) :
    ∃ m : AModel, IsModel w (· < w.heap.size) v m ∧ ModAll m := by
  obtain ⟨cs, rfl, hsz⟩ := okWide_struct Try.underlying27 hval
  have hsz2 := hsz.trans (by kernel_rfl : Try.prog.cellsOf 27 = 2)
  obtain ⟨c0, c1, rfl⟩ := arr_two hsz2
  obtain ⟨fuel, hf⟩ := h
  obtain ⟨m, ⟨x, e, hx⟩, hm⟩ := modelE_trod _ [c0, c1] _ rfl (by simpa [Value.cells] using hf) hw
  injection e with e1 e2
  injection e2 with e2
  subst e1 e2
  exact ⟨m, ⟨_, rfl, hx⟩, hm⟩
end
end Go.Proofs.Ytpjkifbicfcajaa
end
section
/- PROVED: HistoryEdits answers true for every input, and each argument reads afterwards as it read before. No condition. -/
namespace Go.Proofs.Ytpjkifbicfcajaa
open Go.ChangeShapes Go.WideShapes Go.ChangeAt Go.RowKit Go.Deep
open Go.ChangeMaps (open_string shut_string)

theorem Try.own : ownKnob Try.prog.godebug = none := by kernel_rfl
theorem Try.laidOut : laidOutB Try.prog = true := by kernel_rfl

set_option maxRecDepth 100000 in
theorem edits_lifted (os : Os) (started : os.Started) (H : Type) (enc : TypeId × Value → H) :
    ReturnsInHanded {} Try.checked os 9 .any (Rows.historyEditsSpec.pre6 enc Try.prog Try.f9 Rows.historyEditsRow.domain false) (Rows.historyEditsSpec.post enc Try.prog Try.f9 false true false false) := by
  refine returnsInHanded_of_change_shaped (C := Try.checked) Try.own started (by kernel_rfl) Try.func9
    (ChangeSpec.witness6 (enc := enc) (C := Try.checked) false ⟨#[], #[.agg #[.int .i64 0, .slice none 0 0], .int .i64 0, .string ByteArray.empty, .string ByteArray.empty], []⟩ 8 (by kernel_rfl) (by kernel_rfl) (by kernel_rfl) (by kernel_rfl)) ?_
  intro W base args ds gs before hval0 hW hcnd hwt _ _
  have hval : ∀ (j : Nat) t v, Try.f9.params[j]? = some t → args[j]? = some v → Value.okWide Try.prog W .any base t v := hval0
  have hW' := hW
  obtain ⟨p, q, hA0, hV, rfl, hfz, hnd⟩ := hW
  have hA : DataW.TrodAll enc Try.prog W 0 (fun _ => true) true Try.f9.params.toList args.toList ds p := hA0
  have hwt : (DataW.weightsEach Try.prog (Try.f9.params.toList ++ Rows.historyEditsSpec.plain.varTypes Try.prog) (ds ++ gs)).all (· ≤ reachBytes) = true := hwt
  rw [Try.params9] at hA hval hwt
  obtain ⟨v0, v1, v2, v3, d0, d1, d2, d3, p0, p1, p2, p3, rfl, rfl, rfl, h0, h1, h2, h3⟩ := trodAll_four hA
  obtain ⟨rfl, rfl⟩ := trodVars_none hV
  obtain ⟨n, rfl, rfl, rfl, w1⟩ := open_int Try.underlying3 (hval 1 3 v1 rfl rfl) h1
  obtain ⟨s, rfl, rfl, rfl, w2⟩ := open_string Try.underlying9 (hval 2 9 v2 rfl rfl) h2
  obtain ⟨s3, rfl, rfl, rfl, w3⟩ := open_string Try.underlying9 (hval 3 9 v3 rfl rfl) h3
  obtain ⟨a, ha, hza⟩ := model_all (hval 0 27 v0 rfl rfl) h0 (WtOK.args hwt (i := 0) rfl rfl)
  clear hA0 hval0
  simp only [List.append_nil] at hW'
  have hlt : ∀ x ∈ p0, x.block < W.heap.size := fun x hx => hW'.lt x (by simpa using hx)
  refine (edits_any v0 a n s s3 W ha hza (wf_in w1) (by unfold maxLen at w2; omega) (by unfold maxLen at w3; omega)).mono fun e W' ⟨he, hbw⟩ => ?_
  subst he
  exact ⟨_, rfl, post_of_below (pa := p0) (pv := []) hW' (fun _ _ _ => trodAll_mk1 (shut_bool Try.underlying4 _))
    (fun sp hsp => by
      have h4 := trodAll_mk4 (trod_behind Try.laidOut (by kernel_rfl) (of_decide_eq_true (by kernel_rfl)) h0 hbw (fun x hx => hlt x (by simp [hx])) sp (fun x hx => hsp x (by simp [hx]))) (shut_int Try.underlying3 w1) (shut_string Try.underlying9 w2) (shut_string Try.underlying9 w3)
      simp only [List.append_nil] at h4
      exact h4)
    (fun _ _ => rfl) (by simp) hbw (ok_one (by kernel_rfl) rfl (okWide_bool_mk Try.underlying4 _))⟩

theorem historyEdits_holds : Rows.HistoryEditsSaid :=
  OpenClaim.holds_of_wide 9 Try.f9 rfl rfl rfl rfl rfl rfl rfl ⟨rfl, rfl, rfl, rfl, rfl⟩ rfl rfl rfl rfl rfl (by kernel_rfl) Try.func9 (by kernel_rfl)
    (of_decide_eq_true (by kernel_rfl)) (by unfold Func.isWrapper; rw [if_neg (of_decide_eq_false (by kernel_rfl))]; exact ⟨rfl, rfl⟩)
    (fun os started H enc _ => edits_lifted os started H enc)
#print axioms historyEdits_holds
end Go.Proofs.Ytpjkifbicfcajaa
end
