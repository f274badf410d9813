import Derived.Test.YtmafhaadcjgcbaaAddP
import Derived.Test.YtmafhaadcjgcbaaHang
import Derived.Test.YtmafhaadcjgcbaaTwinA
set_option linter.unusedSimpArgs false
set_option linter.unusedVariables false
namespace Go.Proofs.Ytmafhaadcjgcbaa
open Go Go.RowKit

set_option maxRecDepth 100000 in
set_option maxHeartbeats 4000000 in
theorem addA_any (A : Option Addr) (c : Nat) (m : AModel) (w : World) (F : Nat → Prop) (hF : ∀ b, F b → b < w.heap.size) (h : RowOf 7 ENode w F A m.nodes) (hz : ∀ x ∈ m.nodes, NodeOK x) (hz' : ∀ x ∈ m.nodes, LensOK x) (hl : m.nodes.length ≤ 9223372036854775807) (parent : Int) (hpr : InR parent) (role : ByteArray) (hrs : role.size ≤ 9223372036854775807) (a : Int) (ha : InR a) (concept : ByteArray) (hcs : concept.size ≤ 9223372036854775807) :
    Calls Try.prog 37 #[.agg #[.int .i64 m.next, .slice A m.nodes.length c], .int .i64 parent, .string role, .int .i64 a, .string concept] w fun e w' => (∃ v, e = .returned v ∧ AddAs w' w.heap.size m parent role a concept v) ∧ Below w.heap.size w w' := by
  have HBA := Lib.hid (((Below.refl w.heap.size w).alloc (Nat.le_refl _) (.cells #[.int .i64 m.next, .slice A m.nodes.length c] 24)).alloc (by simp) (.cells #[.int .i64 0, .slice none 0 0] 24))
  have HC := Lib.hid (check_any A c m _ F (fun b hb => Nat.lt_of_lt_of_le (hF b hb) HBA.out.size) (h.keep ENode.stays (Keep.below HBA.out hF) (fun _ h => h)) hz hl)
  have HM0 := Lib.hid ((Blk.new w 24 #[.int .i64 m.next, .slice A m.nodes.length c]).alloc (.cells #[.int .i64 0, .slice none 0 0] 24))
  have HR0 := Lib.hid (Blk.new' (w := w.alloc (.cells #[.int .i64 m.next, .slice A m.nodes.length c] 24)) (g := w.heap.size + 1) (t := 24) (cs := #[.int .i64 0, .slice none 0 0]) (by simp))
  have HH := Lib.hid h; have HZ := Lib.hid hz; have HZ' := Lib.hid hz'
  clear h hz hz'
  obtain ⟨u0, hu0⟩ : ∃ u : World, (w.alloc (.cells #[.int .i64 m.next, .slice A m.nodes.length c] 24)).alloc (.cells #[.int .i64 0, .slice none 0 0] 24) = u := ⟨_, rfl⟩
  rw [hu0] at HBA HC HM0 HR0
  have HU0 := Lib.hid hu0
  clear hu0
  have HB0 := HBA
  by_cases hc : CheckM m
  · have HC2 := Lib.hid (int_is (checkI_yes hc) HC.out)
    have HCM := Lib.hid hc
    have HT := Lib.hid hc.tree
    have HS := Lib.hid hc.1.srtB
    have HK4 := Lib.hid hc.kids4
    have hl4 : m.nodes.length ≤ 4096 := hc.1.1.2.2
    have hnx : 1 ≤ m.next ∧ m.next ≤ 1048577 := ⟨hc.1.1.1, hc.1.1.2.1⟩
    clear hc HC
    rcases hwc : wordA concept with _ | _
    · have E := Lib.hid (addE_word (parent := parent) (role := role) (a := a) (concept := concept) HCM.out (Or.inl hwc))
      have HW := Lib.hid hwc
      clear hwc
      go_enter Try.func37, Try.ntmps37
      go_wp2_with fail
      (try rw [HU0.out])
      refine (HC2.out).mono ?_
      rintro _ u1 ⟨rfl, hb⟩
      have HB1 := Lib.hid (HB0.out.trans (hb.mono HB0.out.size))
      have HM1 := Lib.hid (HM0.out.below hb HM0.out.lt)
      have HR1 := Lib.hid (HR0.out.below hb HR0.out.lt)
      clear hb
      go_wp2_with fail
      refine (aword_is hcs HW.out u1).mono ?_
      rintro _ u2 ⟨rfl, hb⟩
      have HB2 := Lib.hid (HB1.out.trans (hb.mono HB1.out.size))
      have HM2 := Lib.hid (HM1.out.below hb HM1.out.lt)
      have HR2 := Lib.hid (HR1.out.below hb HR1.out.lt)
      clear hb
      have t0 := HR2.out.frozen 0; have t1 := HR2.out.frozen 1
      have r0 := HR2.out.cell 0; have r1 := HR2.out.cell 1
      have hrlt := HR2.out.lt
      simp at r0 r1
      go_wp2_with fail
      have hyS := (HR2.out.set_ 0 (.int .i64 0)).set_ 1 (.slice none 0 0)
      have f0 := hyS.cell 0; have f1 := hyS.cell 1
      simp at f0 f1
      have HBW := Lib.hid ((HB2.out.setCell (p := ⟨w.heap.size + 1, 0, none⟩) (Nat.le_succ _) (.int .i64 0)).setCell (p := ⟨w.heap.size + 1, 1, none⟩) (Nat.le_succ _) (.slice none 0 0))
      exact bodyPost_ret (v := .tuple #[.agg #[.int .i64 0, .slice none 0 0], .int .i64 0, .int .i64 (2)]) (by simp [results, Try.results37, go_sem, f0, f1]) rfl ⟨⟨_, rfl, Or.inl ⟨_, by decide, E.out, rfl⟩⟩, HBW.out⟩
    · have HWC := Lib.hid hwc
      clear hwc
      by_cases hp0 : parent = 0
      · subst hp0
        have g0 : ((0 : Int) != 0) = false := by decide
        by_cases hre : rootE role a = 0
        · have HRE := Lib.hid hre
          have HR00 : Hid (role = ⟨#[]⟩) := Lib.hid (by
            unfold rootE at hre
            split at hre
            · rename_i h
              obtain ⟨⟨l⟩⟩ := role
              have := h.1
              have h2 : l.length = 0 := this
              rw [List.length_eq_zero_iff.1 h2]
            · cases hre)
          have E0 := Lib.hid (show addE m 0 role a concept = if m.nodes.length = 4096 ∨ 1048576 < m.next then 4 else 0 by rw [addE_root HCM.out HWC.out, if_neg (fun e => e hre)])
          clear hre
          go_enter Try.func37, Try.ntmps37
          go_wp2_with fail
          (try rw [HU0.out])
          refine (HC2.out).mono ?_
          rintro _ u1 ⟨rfl, hb⟩
          have HB1 := Lib.hid (HB0.out.trans (hb.mono HB0.out.size))
          have HM1 := Lib.hid (HM0.out.below hb HM0.out.lt)
          have HR1 := Lib.hid (HR0.out.below hb HR0.out.lt)
          clear hb
          go_wp2_with fail
          refine (aword_is hcs HWC.out u1).mono ?_
          rintro _ u2 ⟨rfl, hb⟩
          have HB2 := Lib.hid (HB1.out.trans (hb.mono HB1.out.size))
          have HM2 := Lib.hid (HM1.out.below hb HM1.out.lt)
          have HR2 := Lib.hid (HR1.out.below hb HR1.out.lt)
          clear hb
          have m0 := HM2.out.cell 0; have m1 := HM2.out.cell 1
          have hmlt := HM2.out.lt
          simp at m0 m1
          go_wp2_with fail
          refine (int_is HRE.out (goalRoot_any m.next A m.nodes.length c u2 role a 1)).mono ?_
          rintro _ u3 ⟨rfl, hb⟩
          have HB3 := Lib.hid (HB2.out.trans (hb.mono HB2.out.size))
          have HM3 := Lib.hid (HM2.out.below hb HM2.out.lt)
          have HR3 := Lib.hid (HR2.out.below hb HR2.out.lt)
          clear hb
          clear m0 m1 hmlt
          by_cases hfl : m.nodes.length = 4096
          · have E := Lib.hid (show addE m 0 role a concept = 4 by rw [E0.out, if_pos (Or.inl hfl)])
            have hq1 : ((m.nodes.length : Int) == 4096) = true := by rw [hfl]; rfl
            have hq2 : decide ((4096 : Int) ≤ (m.nodes.length : Int)) = true := decide_eq_true (by omega)
            clear hfl
            have m0 := HM3.out.cell 0; have m1 := HM3.out.cell 1
            have hmlt := HM3.out.lt
            simp at m0 m1
            have t0 := HR3.out.frozen 0; have t1 := HR3.out.frozen 1
            have r0 := HR3.out.cell 0; have r1 := HR3.out.cell 1
            have hrlt := HR3.out.lt
            simp at r0 r1
            go_wp2_with fail
            have hyS := (HR3.out.set_ 0 (.int .i64 0)).set_ 1 (.slice none 0 0)
            have f0 := hyS.cell 0; have f1 := hyS.cell 1
            simp at f0 f1
            have HBW := Lib.hid ((HB3.out.setCell (p := ⟨w.heap.size + 1, 0, none⟩) (Nat.le_succ _) (.int .i64 0)).setCell (p := ⟨w.heap.size + 1, 1, none⟩) (Nat.le_succ _) (.slice none 0 0))
            exact bodyPost_ret (v := .tuple #[.agg #[.int .i64 0, .slice none 0 0], .int .i64 0, .int .i64 (4)]) (by simp [results, Try.results37, go_sem, f0, f1]) rfl ⟨⟨_, rfl, Or.inl ⟨_, by decide, E.out, rfl⟩⟩, HBW.out⟩
          · have hq1 : ((m.nodes.length : Int) == 4096) = false := beq_eq_false_iff_ne.2 (by omega)
            have hq2 : decide ((4096 : Int) ≤ (m.nodes.length : Int)) = false := decide_eq_false (by omega)
            by_cases hfn : 1048576 < m.next
            · have E := Lib.hid (show addE m 0 role a concept = 4 by rw [E0.out, if_pos (Or.inr hfn)])
              have hq3 : decide ((1048576 : Int) < m.next) = true := decide_eq_true hfn
              clear hfn
              have m0 := HM3.out.cell 0; have m1 := HM3.out.cell 1
              have hmlt := HM3.out.lt
              simp at m0 m1
              have t0 := HR3.out.frozen 0; have t1 := HR3.out.frozen 1
              have r0 := HR3.out.cell 0; have r1 := HR3.out.cell 1
              have hrlt := HR3.out.lt
              simp at r0 r1
              go_wp2_with fail
              have hyS := (HR3.out.set_ 0 (.int .i64 0)).set_ 1 (.slice none 0 0)
              have f0 := hyS.cell 0; have f1 := hyS.cell 1
              simp at f0 f1
              have HBW := Lib.hid ((HB3.out.setCell (p := ⟨w.heap.size + 1, 0, none⟩) (Nat.le_succ _) (.int .i64 0)).setCell (p := ⟨w.heap.size + 1, 1, none⟩) (Nat.le_succ _) (.slice none 0 0))
              exact bodyPost_ret (v := .tuple #[.agg #[.int .i64 0, .slice none 0 0], .int .i64 0, .int .i64 (4)]) (by simp [results, Try.results37, go_sem, f0, f1]) rfl ⟨⟨_, rfl, Or.inl ⟨_, by decide, E.out, rfl⟩⟩, HBW.out⟩
            · have hq3 : decide ((1048576 : Int) < m.next) = false := decide_eq_false hfn
              have E := Lib.hid (show addE m 0 role a concept = 0 by rw [E0.out, if_neg (by omega)])
              have hnx2 : m.next ≤ 1048576 := by omega
              have m0 := HM3.out.cell 0; have m1 := HM3.out.cell 1
              have hmlt := HM3.out.lt
              simp at m0 m1
              go_wp2_with fail
              refine (twinA_any A c m u3 F (fun b hb => Nat.lt_of_lt_of_le (hF b hb) HB3.out.size) (HH.out.keep ENode.stays (Keep.below HB3.out hF) (fun _ h => h)) HZ'.out (by omega)).mono ?_
              rintro _ u4 ⟨vt, rfl, l, hown, hlm, hb⟩
              have HB4 := Lib.hid (HB3.out.trans (hb.mono HB3.out.size))
              have HM4 := Lib.hid (HM3.out.below hb HM3.out.lt)
              have HR4 := Lib.hid (HR3.out.below hb HR3.out.lt)
              have HSZ := Lib.hid HB3.out.size
              have HO := Lib.hid hown; have HLM := Lib.hid hlm
              have hll : l.length = m.nodes.length := by rw [← hlm]; simp
              have HLX := Lib.hid hll
              have hlb : l.length ≤ 4096 := by omega
              clear hll
              have hRS := HR3.out.lt
              have hbs := hb.size
              obtain ⟨Av, cv, rfl⟩ := own_shape hown.row
              clear hb hown hlm m0 m1 hmlt
              have m0 := HM4.out.cell 0; have m1 := HM4.out.cell 1
              have hmlt := HM4.out.lt
              simp at m0 m1
              go_upto_region 13 with fail
              obtain ⟨p, hp⟩ : ∃ p, u4.heap.size = p := ⟨_, rfl⟩
              obtain ⟨x1, hx1⟩ : ∃ z : World, u4.alloc (.cells #[.int .i64 m.next, .slice Av l.length cv] 24) = z := ⟨_, rfl⟩
              have HX : Hid (Below u4.heap.size u4 x1) := Lib.hid (by rw [← hx1]; exact (Below.refl _ _).alloc (Nat.le_refl _) _)
              have HP : Hid (Blk x1 p 24 #[.int .i64 m.next, .slice Av l.length cv]) := Lib.hid (by rw [← hx1, ← hp]; exact Blk.new _ _ _)
              have HOx := Lib.hid (HO.out.below HX.out)
              have HBx := Lib.hid (HB4.out.trans (HX.out.mono HB4.out.size))
              have HMx := Lib.hid (HM4.out.below HX.out HM4.out.lt)
              have HRx := Lib.hid (HR4.out.below HX.out HR4.out.lt)
              have HPL : Hid (∀ b, some b ∈ ((Value.slice Av l.length cv).ownBlock :: allBlocks l) → b < p) := Lib.hid (fun b hb => by rw [← hp]; exact (HO.out.lt b hb).2)
              have hpw : w.heap.size + 1 < p := by have := HR4.out.lt; omega
              (try rw [hx1])
              (try rw [hp])
              clear hx1 m0 m1 hmlt HO
              have hup : u3.heap.size ≤ p := by omega
              clear hp
              have p0 := HP.out.cell 0; have p1 := HP.out.cell 1
              have z0 := HP.out.frozen 0; have z1 := HP.out.frozen 1
              have hplt := HP.out.lt
              simp at p0 p1
              have m0 := HMx.out.cell 0; have m1 := HMx.out.cell 1
              have hmlt := HMx.out.lt
              simp at m0 m1
              have hw1 : IntKind.i64.wrap (m.next + 1) = m.next + 1 := by rw [IntKind.wrap_i64]; omega
              have HP2 := Lib.hid (HP.out.set_ 0 (.int .i64 (m.next + 1)))
              have HB2x := Lib.hid (HBx.out.setCell (p := ⟨p, 0, none⟩) (by show w.heap.size ≤ p; omega) (.int .i64 (m.next + 1)))
              have HM2x := Lib.hid (HMx.out.far (p := ⟨p, 0, none⟩) (by show w.heap.size ≠ p; omega) (.int .i64 (m.next + 1)))
              have HR2x := Lib.hid (HRx.out.far (p := ⟨p, 0, none⟩) (by show w.heap.size + 1 ≠ p; omega) (.int .i64 (m.next + 1)))
              have HO2x : Hid (OwnM (x1.setCell ⟨p, 0, none⟩ (.int .i64 (m.next + 1))) u3.heap.size (.slice Av l.length cv) l) := Lib.hid ⟨own_keep HOx.out.row fun b e => Below.heap_setCell _ _ _ _ (by have := HPL.out b (by rw [← e]; exact List.mem_cons_self ..); show b ≠ p; omega), fun y hy => (HOx.out.lists y hy).keep fun b hb => Below.heap_setCell _ _ _ _ (by have := HPL.out b (List.mem_cons_of_mem _ (mem_all hy hb)); show b ≠ p; omega), HOx.out.dis⟩
              have HWE : Hid (∃ z, z = x1.setCell ⟨p, 0, none⟩ (.int .i64 (m.next + 1))) := Lib.hid ⟨_, rfl⟩
              have hsx : p < (x1.setCell ⟨p, 0, none⟩ (.int .i64 (m.next + 1))).heap.size := by simpa using hplt
              simp only [Array.setIfInBounds] at HP2
              go_upto_region 15 with fail
              obtain ⟨x2, hx2⟩ := HWE.out
              rw [← hx2] at HP2 HB2x HM2x HR2x HO2x hsx
              (try rw [← hx2])
              clear hx2 HWE p0 p1 z0 z1 hplt m0 m1 hmlt HP HBx HMx HRx HOx
              have HP2' : Hid (Blk x2 p 24 #[.int .i64 (m.next + 1), .slice Av l.length cv]) := Lib.hid (by simpa using HP2.out)
              clear HP2
              have HP := HP2'; have HBx := HB2x; have HMx := HM2x; have HRx := HR2x; have HOx := HO2x
              clear HP2' HB2x HM2x HR2x HO2x
              have p0 := HP.out.cell 0; have p1 := HP.out.cell 1
              have z0 := HP.out.frozen 0; have z1 := HP.out.frozen 1
              have hplt := HP.out.lt
              simp at p0 p1
              obtain ⟨q, hq⟩ : ∃ q, x2.heap.size = q := ⟨_, rfl⟩
              have HQ : Hid (Blk (x2.alloc (.cells #[.int .i64 m.next, .string concept, .int .i64 0, .string ⟨#[]⟩, .slice none 0 0, .slice none 0 0, .slice none 0 0] 38)) q 38 #[.int .i64 m.next, .string concept, .int .i64 0, .string ⟨#[]⟩, .slice none 0 0, .slice none 0 0, .slice none 0 0]) := Lib.hid (by rw [← hq]; exact Blk.new _ _ _)
              have HOq := Lib.hid (HOx.out.below ((Below.refl x2.heap.size x2).alloc (Nat.le_refl _) (.cells #[.int .i64 m.next, .string concept, .int .i64 0, .string ⟨#[]⟩, .slice none 0 0, .slice none 0 0, .slice none 0 0] 38)))
              have HPq := Lib.hid (HP.out.alloc (.cells #[.int .i64 m.next, .string concept, .int .i64 0, .string ⟨#[]⟩, .slice none 0 0, .slice none 0 0, .slice none 0 0] 38))
              have hqs : u3.heap.size ≤ x2.heap.size := by omega
              have HBq := Lib.hid (HBx.out.alloc HBx.out.size (.cells #[.int .i64 m.next, .string concept, .int .i64 0, .string ⟨#[]⟩, .slice none 0 0, .slice none 0 0, .slice none 0 0] 38))
              have HMq := Lib.hid (HMx.out.alloc (.cells #[.int .i64 m.next, .string concept, .int .i64 0, .string ⟨#[]⟩, .slice none 0 0, .slice none 0 0, .slice none 0 0] 38))
              have HRq := Lib.hid (HRx.out.alloc (.cells #[.int .i64 m.next, .string concept, .int .i64 0, .string ⟨#[]⟩, .slice none 0 0, .slice none 0 0, .slice none 0 0] 38))
              go_wp2_with (at_builtin; refine wpList_append_from _ rfl (.tmp 70) (.tmp 74) 22 rfl u3.heap.size 38 Try.underlying22 node_info rfl (by omega) (.slice Av l.length cv) l.length (l.flatMap LN.cells) (by first | rfl | simp [Act.eval]) HOq.out.row (some ⟨x2.heap.size, 0, none⟩) 1 1 (LN.cells (⟨newN m concept 0 ⟨#[]⟩, .slice none 0 0, .slice none 0 0, .slice none 0 0⟩ : LN)) (by first | rfl | simp [Act.eval]) rfl (by simp) (fun ad e => by cases e; rw [hq]; exact news_cells HQ.out) (fun u hu => by simp only [LN.cells, nodeCellsA, newN, List.mem_cons, List.not_mem_nil, or_false] at hu; rcases hu with rfl | rfl | rfl | rfl | rfl | rfl | rfl <;> rfl) (by unfold maxLen; omega) (by omega) (by simp; omega) ?_)
              intro A6 c6 w6 own6 hg6 hat6
              have hrow := fun k (e : (Value.slice Av l.length cv).ownBlock = some k) => HPL.out k (by rw [← e]; exact List.mem_cons_self ..)
              have hrow2 := fun k (e : (Value.slice Av l.length cv).ownBlock = some k) => (HOq.out.row.lt k e).1
              have HW6 := Lib.hid (HOq.out.push (x := (⟨newN m concept 0 ⟨#[]⟩, .slice none 0 0, .slice none 0 0, .slice none 0 0⟩ : LN)) ⟨World.ownsRow_nil _ _ _ _, OwnI.nil _ _, World.ownsRow_nil _ _ _ _⟩ (fun b => by simp [LN.blocks, Value.ownBlock]) (fun b hb => by simp [LN.blocks, Value.ownBlock] at hb) own6 hg6 (by rcases hat6 with e | e; exact .inl e; exact .inr (by rw [e]; simp [hq])))
              have HB6 := Lib.hid (HBq.out.grown hg6 (by simp; have := HBx.out.size; omega) (fun k e => by have := hrow2 k e; have := HSZ.out; omega))
              have HP6 := Lib.hid (HPq.out.grown hg6 (fun e => by have := hrow _ e.symm; omega))
              have HM6 := Lib.hid (HMq.out.grown hg6 (fun e => by have := hrow2 _ e.symm; have := HSZ.out; omega))
              have HR6 := Lib.hid (HRq.out.grown hg6 (fun e => by have := hrow2 _ e.symm; omega))
              have HAT : Hid (∀ b, some b ∈ ((Value.slice A6 (l.length + 1) c6).ownBlock :: allBlocks (l ++ [(⟨newN m concept 0 ⟨#[]⟩, .slice none 0 0, .slice none 0 0, .slice none 0 0⟩ : LN)])) → b ≠ p) := Lib.hid (fun b hb e => by
                subst e
                rcases List.mem_cons.1 hb with hb | hb
                · rcases hat6 with e | e
                  · have := hrow b (by rw [← e]; exact hb.symm); omega
                  · have h2 := hb.trans e
                    injection h2 with h2
                    (try simp at h2)
                    omega
                · rw [all_append, List.mem_append] at hb
                  rcases hb with hb | hb
                  · have := HPL.out b (List.mem_cons_of_mem _ hb); omega
                  · simp [allBlocks, LN.blocks, Value.ownBlock] at hb)
              have hs6 := hg6.size
              clear own6 hg6 hat6 hrow hrow2 p0 p1 z0 z1
              have p0 := HP6.out.cell 0; have p1 := HP6.out.cell 1
              have z0 := HP6.out.frozen 0; have z1 := HP6.out.frozen 1
              have hplt6 := HP6.out.lt
              simp at p0 p1
              have HP7 := Lib.hid (HP6.out.set_ 1 (.slice A6 (l.length + 1) c6))
              have HB7 := Lib.hid (HB6.out.setCell (p := ⟨p, 1, none⟩) (by show w.heap.size ≤ p; omega) (.slice A6 (l.length + 1) c6))
              have HM7 := Lib.hid (HM6.out.far (p := ⟨p, 1, none⟩) (by show w.heap.size ≠ p; omega) (.slice A6 (l.length + 1) c6))
              have HR7 := Lib.hid (HR6.out.far (p := ⟨p, 1, none⟩) (by show w.heap.size + 1 ≠ p; omega) (.slice A6 (l.length + 1) c6))
              have HO7 : Hid (OwnM (w6.setCell ⟨p, 1, none⟩ (.slice A6 (l.length + 1) c6)) u3.heap.size (.slice A6 (l.length + 1) c6) (l ++ [(⟨newN m concept 0 ⟨#[]⟩, .slice none 0 0, .slice none 0 0, .slice none 0 0⟩ : LN)])) := Lib.hid ⟨own_keep HW6.out.row fun b e => Below.heap_setCell _ _ _ _ (HAT.out b (by rw [← e]; exact List.mem_cons_self ..)), fun y hy => (HW6.out.lists y hy).keep fun b hb => Below.heap_setCell _ _ _ _ (HAT.out b (List.mem_cons_of_mem _ (mem_all hy hb))), HW6.out.dis⟩
              have HWE : Hid (∃ z, z = w6.setCell ⟨p, 1, none⟩ (.slice A6 (l.length + 1) c6)) := Lib.hid ⟨_, rfl⟩
              have hs7 : u3.heap.size ≤ (w6.setCell ⟨p, 1, none⟩ (.slice A6 (l.length + 1) c6)).heap.size := by simp at hs6 ⊢; omega
              go_upto_region 16 with fail
              obtain ⟨x3, hx3⟩ := HWE.out
              rw [← hx3] at HP7 HB7 HM7 HR7 HO7 hs7
              (try rw [← hx3])
              clear hx3 HWE p0 p1 z0 z1 hplt6 HP6 HB6 HM6 HR6 HW6 hs6 HQ HOq HPq HBq HMq HRq hq HP HBx HMx HRx HOx
              have HP8 : Hid (Blk x3 p 24 #[.int .i64 (m.next + 1), .slice A6 (l.length + 1) c6]) := Lib.hid (by simpa using HP7.out)
              clear HP7
              have hll := HLX.out
              have HMAP : Hid ((l ++ [(⟨newN m concept 0 ⟨#[]⟩, .slice none 0 0, .slice none 0 0, .slice none 0 0⟩ : LN)]).map LN.n = m.nodes ++ [newN m concept 0 ⟨#[]⟩]) := Lib.hid (by rw [List.map_append, HLM.out]; rfl)
              have HLL := Lib.hid (show (l ++ [(⟨newN m concept 0 ⟨#[]⟩, .slice none 0 0, .slice none 0 0, .slice none 0 0⟩ : LN)]).length = l.length + 1 by simp)
              have p0 := HP8.out.cell 0; have p1 := HP8.out.cell 1
              have hplt := HP8.out.lt
              simp at p0 p1
              have HSR := Lib.hid (more_srt (n0 := newN m concept 0 ⟨#[]⟩) HCM.out hnx2 rfl)
              have HCL := Lib.hid (more_closed (n0 := newN m concept 0 ⟨#[]⟩) HCM.out rfl)
              have HKR := Lib.hid (more_kids (n0 := newN m concept 0 ⟨#[]⟩) (fun x hx => (HZ.out x hx).2.2) rfl)
              have HHG := Lib.hid (hangRoot_any (m.next + 1) (.slice A6 (l.length + 1) c6) (l ++ [(⟨newN m concept 0 ⟨#[]⟩, .slice none 0 0, .slice none 0 0, .slice none 0 0⟩ : LN)]) x3 u3.heap.size _ (fun _ h => h) HO7.out hs7 (by rw [HMAP.out]; exact HSR.out) (by rw [HLL.out]; omega) l.length (by rw [HLL.out]; omega) (⟨newN m concept 0 ⟨#[]⟩, .slice none 0 0, .slice none 0 0, .slice none 0 0⟩ : LN) (by simp) role a)
              have HHG2 := HHG.out
              rw [show ((⟨newN m concept 0 ⟨#[]⟩, .slice none 0 0, .slice none 0 0, .slice none 0 0⟩ : LN)).n.id = m.next from rfl] at HHG2
              have HHG3 := Lib.hid HHG2
              clear HHG HHG2 hll
              go_wp2_with fail
              refine HHG3.out.mono ?_
              rintro _ x5 ⟨rfl, l2, hown2, hmap2, hk5⟩
              have HB10 := Lib.hid (HB7.out.trans (hk5.toBelow (B := w.heap.size) HB7.out.size (fun b hb => by have := (HO7.out.lt b hb).1; have := HSZ.out; omega)))
              have HRA := Lib.hid (hk5.blk HR7.out (fun hb => by have := (HO7.out.lt _ hb).1; omega))
              have HPA := Lib.hid (hk5.blk HP8.out (fun hb => HAT.out _ hb rfl))
              have HMA := Lib.hid (hk5.blk HM7.out (fun hb => by have := (HO7.out.lt _ hb).1; omega))
              have HOW2 := Lib.hid hown2
              have HMAP2 := Lib.hid hmap2
              clear hown2 hmap2 hk5 p0 p1 hplt HHG3
              have p0 := HPA.out.cell 0; have p1 := HPA.out.cell 1
              have hplt := HPA.out.lt
              simp at p0 p1
              have t0 := HRA.out.frozen 0; have t1 := HRA.out.frozen 1
              have r0 := HRA.out.cell 0; have r1 := HRA.out.cell 1
              have hrlt := HRA.out.lt
              simp at r0 r1
              go_wp2_with fail
              have HRZ := HRA; have HBZ := HB10; have HOZ := HOW2
              have hyS := (HRZ.out.set_ 0 (.int .i64 (m.next + 1))).set_ 1 (.slice A6 (l.length + 1) c6)
              have f0 := hyS.cell 0; have f1 := hyS.cell 1
              simp at f0 f1
              have HBW := Lib.hid ((HBZ.out.setCell (p := ⟨w.heap.size + 1, 0, none⟩) (Nat.le_succ _) (.int .i64 (m.next + 1))).setCell (p := ⟨w.heap.size + 1, 1, none⟩) (Nat.le_succ _) (.slice A6 (l.length + 1) c6))
              refine bodyPost_ret (v := .tuple #[.agg #[.int .i64 (m.next + 1), .slice A6 (l.length + 1) c6], .int .i64 m.next, .int .i64 0]) (by simp [results, Try.results37, go_sem, f0, f1]) rfl ⟨⟨_, rfl, Or.inr ⟨E.out, _, l2, rfl, ?_, ?_⟩⟩, HBW.out⟩
              · refine (HOZ.out.keep (fun b h1 _ => ?_)).weaken HSZ.out
                exact (Below.heap_setCell _ _ _ _ (by show b ≠ w.heap.size + 1; omega)).trans (Below.heap_setCell _ _ _ _ (by show b ≠ w.heap.size + 1; omega))
              · exact Or.inl ⟨rfl, by rw [HMAP2.out, HMAP.out, HLX.out, set_last]; unfold addRoot newN; rw [HR00.out]⟩
        · have hr22 : rootE role a = 22 := by unfold rootE at hre ⊢; split at hre; exact absurd rfl hre; rw [if_neg (by assumption)]
          have E2 := Lib.hid (show addE m 0 role a concept = 22 by rw [addE_root HCM.out HWC.out, if_pos hre, hr22])
          have HR22 := Lib.hid hr22
          clear hre hr22
          go_enter Try.func37, Try.ntmps37
          go_wp2_with fail
          (try rw [HU0.out])
          refine (HC2.out).mono ?_
          rintro _ u1 ⟨rfl, hb⟩
          have HB1 := Lib.hid (HB0.out.trans (hb.mono HB0.out.size))
          have HM1 := Lib.hid (HM0.out.below hb HM0.out.lt)
          have HR1 := Lib.hid (HR0.out.below hb HR0.out.lt)
          clear hb
          go_wp2_with fail
          refine (aword_is hcs HWC.out u1).mono ?_
          rintro _ u2 ⟨rfl, hb⟩
          have HB2 := Lib.hid (HB1.out.trans (hb.mono HB1.out.size))
          have HM2 := Lib.hid (HM1.out.below hb HM1.out.lt)
          have HR2 := Lib.hid (HR1.out.below hb HR1.out.lt)
          clear hb
          have m0 := HM2.out.cell 0; have m1 := HM2.out.cell 1
          have hmlt := HM2.out.lt
          simp at m0 m1
          go_wp2_with fail
          refine (int_is HR22.out (goalRoot_any m.next A m.nodes.length c u2 role a 1)).mono ?_
          rintro _ u3 ⟨rfl, hb⟩
          have HB3 := Lib.hid (HB2.out.trans (hb.mono HB2.out.size))
          have HM3 := Lib.hid (HM2.out.below hb HM2.out.lt)
          have HR3 := Lib.hid (HR2.out.below hb HR2.out.lt)
          clear hb
          clear m0 m1 hmlt
          have t0 := HR3.out.frozen 0; have t1 := HR3.out.frozen 1
          have r0 := HR3.out.cell 0; have r1 := HR3.out.cell 1
          have hrlt := HR3.out.lt
          simp at r0 r1
          go_wp2_with fail
          have hyS := (HR3.out.set_ 0 (.int .i64 0)).set_ 1 (.slice none 0 0)
          have f0 := hyS.cell 0; have f1 := hyS.cell 1
          simp at f0 f1
          have HBW := Lib.hid ((HB3.out.setCell (p := ⟨w.heap.size + 1, 0, none⟩) (Nat.le_succ _) (.int .i64 0)).setCell (p := ⟨w.heap.size + 1, 1, none⟩) (Nat.le_succ _) (.slice none 0 0))
          exact bodyPost_ret (v := .tuple #[.agg #[.int .i64 0, .slice none 0 0], .int .i64 0, .int .i64 (22)]) (by simp [results, Try.results37, go_sem, f0, f1]) rfl ⟨⟨_, rfl, Or.inl ⟨_, by decide, E2.out, rfl⟩⟩, HBW.out⟩
      · have g0 : (parent != 0) = true := bne_iff_ne.2 hp0
        rcases hwr : wordA role with _ | _
        · have E := Lib.hid (addE_word (parent := parent) (role := role) (a := a) (concept := concept) HCM.out (Or.inr ⟨hp0, hwr⟩))
          have HWR2 := Lib.hid hwr
          clear hwr
          go_enter Try.func37, Try.ntmps37
          go_wp2_with fail
          (try rw [HU0.out])
          refine (HC2.out).mono ?_
          rintro _ u1 ⟨rfl, hb⟩
          have HB1 := Lib.hid (HB0.out.trans (hb.mono HB0.out.size))
          have HM1 := Lib.hid (HM0.out.below hb HM0.out.lt)
          have HR1 := Lib.hid (HR0.out.below hb HR0.out.lt)
          clear hb
          go_wp2_with fail
          refine (aword_is hcs HWC.out u1).mono ?_
          rintro _ u2 ⟨rfl, hb⟩
          have HB2 := Lib.hid (HB1.out.trans (hb.mono HB1.out.size))
          have HM2 := Lib.hid (HM1.out.below hb HM1.out.lt)
          have HR2 := Lib.hid (HR1.out.below hb HR1.out.lt)
          clear hb
          go_wp2_with fail
          refine (aword_is hrs HWR2.out u2).mono ?_
          rintro _ u3 ⟨rfl, hb⟩
          have HB3 := Lib.hid (HB2.out.trans (hb.mono HB2.out.size))
          have HM3 := Lib.hid (HM2.out.below hb HM2.out.lt)
          have HR3 := Lib.hid (HR2.out.below hb HR2.out.lt)
          clear hb
          have t0 := HR3.out.frozen 0; have t1 := HR3.out.frozen 1
          have r0 := HR3.out.cell 0; have r1 := HR3.out.cell 1
          have hrlt := HR3.out.lt
          simp at r0 r1
          go_wp2_with fail
          have hyS := (HR3.out.set_ 0 (.int .i64 0)).set_ 1 (.slice none 0 0)
          have f0 := hyS.cell 0; have f1 := hyS.cell 1
          simp at f0 f1
          have HBW := Lib.hid ((HB3.out.setCell (p := ⟨w.heap.size + 1, 0, none⟩) (Nat.le_succ _) (.int .i64 0)).setCell (p := ⟨w.heap.size + 1, 1, none⟩) (Nat.le_succ _) (.slice none 0 0))
          exact bodyPost_ret (v := .tuple #[.agg #[.int .i64 0, .slice none 0 0], .int .i64 0, .int .i64 (2)]) (by simp [results, Try.results37, go_sem, f0, f1]) rfl ⟨⟨_, rfl, Or.inl ⟨_, by decide, E.out, rfl⟩⟩, HBW.out⟩
        · have HWR2 := Lib.hid hwr
          clear hwr
          rcases atI_cases m.nodes parent with ⟨jp, hjp, hj1, hj2⟩ | ⟨hj1, hj2⟩
          · obtain ⟨y, hy⟩ : ∃ y, m.nodes[jp] = y := ⟨_, rfl⟩
            have hym : y ∈ m.nodes := by rw [← hy]; exact List.getElem_mem hjp
            have hyi : y.id = parent := by rw [← hy]; exact hj1
            subst hyi
            have HYE := Lib.hid hy; have HYm := Lib.hid hym; have HAT2 := Lib.hid hj2
            obtain ⟨d, hd6, hd⟩ := HT.out.dep y hym
            have HD := Lib.hid hd
            have g4 : decide ((jp : Int) < 0) = false := decide_eq_false (by omega)
            have EK := Lib.hid (addE_kid (role := role) (a := a) (concept := concept) HCM.out HWC.out hym HWR2.out hd)
            clear hy hym hj1 hj2 hd
            rcases hsp : spotI y.kids (inL m y role) a with _ | i
            · have E := Lib.hid (show addE m y.id role a concept = 22 by rw [EK.out, hsp]; rfl)
              have HKE := Lib.hid (show kidE (spotI y.kids (inL m y role) a) d 1 = 22 by rw [hsp]; rfl)
              clear hsp EK
              go_enter Try.func37, Try.ntmps37
              go_wp2_with fail
              (try rw [HU0.out])
              refine (HC2.out).mono ?_
              rintro _ u1 ⟨rfl, hb⟩
              have HB1 := Lib.hid (HB0.out.trans (hb.mono HB0.out.size))
              have HM1 := Lib.hid (HM0.out.below hb HM0.out.lt)
              have HR1 := Lib.hid (HR0.out.below hb HR0.out.lt)
              clear hb
              go_wp2_with fail
              refine (aword_is hcs HWC.out u1).mono ?_
              rintro _ u2 ⟨rfl, hb⟩
              have HB2 := Lib.hid (HB1.out.trans (hb.mono HB1.out.size))
              have HM2 := Lib.hid (HM1.out.below hb HM1.out.lt)
              have HR2 := Lib.hid (HR1.out.below hb HR1.out.lt)
              clear hb
              go_wp2_with fail
              refine (aword_is hrs HWR2.out u2).mono ?_
              rintro _ u3 ⟨rfl, hb⟩
              have HB3 := Lib.hid (HB2.out.trans (hb.mono HB2.out.size))
              have HM3 := Lib.hid (HM2.out.below hb HM2.out.lt)
              have HR3 := Lib.hid (HR2.out.below hb HR2.out.lt)
              clear hb
              have m0 := HM3.out.cell 0; have m1 := HM3.out.cell 1
              have hmlt := HM3.out.lt
              simp at m0 m1
              go_wp2_with fail
              refine (int_is HAT2.out (place_any A c m.next y.id m.nodes u3 F (fun b hb => Nat.lt_of_lt_of_le (hF b hb) HB3.out.size) (HH.out.keep ENode.stays (Keep.below HB3.out hF) (fun _ h => h)) HS.out hpr (by omega))).mono ?_
              rintro _ u4 ⟨rfl, hb⟩
              have HB4 := Lib.hid (HB3.out.trans (hb.mono HB3.out.size))
              have HM4 := Lib.hid (HM3.out.below hb HM3.out.lt)
              have HR4 := Lib.hid (HR3.out.below hb HR3.out.lt)
              clear hb
              clear m0 m1 hmlt
              have m0 := HM4.out.cell 0; have m1 := HM4.out.cell 1
              have hmlt := HM4.out.lt
              simp at m0 m1
              go_wp2_with fail
              refine (int_is HKE.out (goalKid_any A c m u4 F (fun b hb => Nat.lt_of_lt_of_le (hF b hb) HB4.out.size) (HH.out.keep ENode.stays (Keep.below HB4.out hF) (fun _ h => h)) HT.out HS.out (fun x hx => (HZ.out x hx).2.1) (fun x hx => (HZ.out x hx).2.2) (by omega) jp hjp y HYE.out (HK4.out y HYm.out) role a ha d HD.out hd6 1 ⟨by omega, by omega⟩)).mono ?_
              rintro _ u5 ⟨rfl, hb⟩
              have HB5 := Lib.hid (HB4.out.trans (hb.mono HB4.out.size))
              have HM5 := Lib.hid (HM4.out.below hb HM4.out.lt)
              have HR5 := Lib.hid (HR4.out.below hb HR4.out.lt)
              clear hb
              clear m0 m1 hmlt
              have t0 := HR5.out.frozen 0; have t1 := HR5.out.frozen 1
              have r0 := HR5.out.cell 0; have r1 := HR5.out.cell 1
              have hrlt := HR5.out.lt
              simp at r0 r1
              go_wp2_with fail
              have hyS := (HR5.out.set_ 0 (.int .i64 0)).set_ 1 (.slice none 0 0)
              have f0 := hyS.cell 0; have f1 := hyS.cell 1
              simp at f0 f1
              have HBW := Lib.hid ((HB5.out.setCell (p := ⟨w.heap.size + 1, 0, none⟩) (Nat.le_succ _) (.int .i64 0)).setCell (p := ⟨w.heap.size + 1, 1, none⟩) (Nat.le_succ _) (.slice none 0 0))
              exact bodyPost_ret (v := .tuple #[.agg #[.int .i64 0, .slice none 0 0], .int .i64 0, .int .i64 (22)]) (by simp [results, Try.results37, go_sem, f0, f1]) rfl ⟨⟨_, rfl, Or.inl ⟨_, by decide, E.out, rfl⟩⟩, HBW.out⟩
            · by_cases hdd : 64 < (d : Int) + 1
              · have E := Lib.hid (show addE m y.id role a concept = 23 by rw [EK.out, hsp, kidE_deep hdd]; rfl)
                have HKE := Lib.hid (show kidE (spotI y.kids (inL m y role) a) d 1 = 23 by rw [hsp, kidE_deep hdd])
                clear hsp EK hdd
                go_enter Try.func37, Try.ntmps37
                go_wp2_with fail
                (try rw [HU0.out])
                refine (HC2.out).mono ?_
                rintro _ u1 ⟨rfl, hb⟩
                have HB1 := Lib.hid (HB0.out.trans (hb.mono HB0.out.size))
                have HM1 := Lib.hid (HM0.out.below hb HM0.out.lt)
                have HR1 := Lib.hid (HR0.out.below hb HR0.out.lt)
                clear hb
                go_wp2_with fail
                refine (aword_is hcs HWC.out u1).mono ?_
                rintro _ u2 ⟨rfl, hb⟩
                have HB2 := Lib.hid (HB1.out.trans (hb.mono HB1.out.size))
                have HM2 := Lib.hid (HM1.out.below hb HM1.out.lt)
                have HR2 := Lib.hid (HR1.out.below hb HR1.out.lt)
                clear hb
                go_wp2_with fail
                refine (aword_is hrs HWR2.out u2).mono ?_
                rintro _ u3 ⟨rfl, hb⟩
                have HB3 := Lib.hid (HB2.out.trans (hb.mono HB2.out.size))
                have HM3 := Lib.hid (HM2.out.below hb HM2.out.lt)
                have HR3 := Lib.hid (HR2.out.below hb HR2.out.lt)
                clear hb
                have m0 := HM3.out.cell 0; have m1 := HM3.out.cell 1
                have hmlt := HM3.out.lt
                simp at m0 m1
                go_wp2_with fail
                refine (int_is HAT2.out (place_any A c m.next y.id m.nodes u3 F (fun b hb => Nat.lt_of_lt_of_le (hF b hb) HB3.out.size) (HH.out.keep ENode.stays (Keep.below HB3.out hF) (fun _ h => h)) HS.out hpr (by omega))).mono ?_
                rintro _ u4 ⟨rfl, hb⟩
                have HB4 := Lib.hid (HB3.out.trans (hb.mono HB3.out.size))
                have HM4 := Lib.hid (HM3.out.below hb HM3.out.lt)
                have HR4 := Lib.hid (HR3.out.below hb HR3.out.lt)
                clear hb
                clear m0 m1 hmlt
                have m0 := HM4.out.cell 0; have m1 := HM4.out.cell 1
                have hmlt := HM4.out.lt
                simp at m0 m1
                go_wp2_with fail
                refine (int_is HKE.out (goalKid_any A c m u4 F (fun b hb => Nat.lt_of_lt_of_le (hF b hb) HB4.out.size) (HH.out.keep ENode.stays (Keep.below HB4.out hF) (fun _ h => h)) HT.out HS.out (fun x hx => (HZ.out x hx).2.1) (fun x hx => (HZ.out x hx).2.2) (by omega) jp hjp y HYE.out (HK4.out y HYm.out) role a ha d HD.out hd6 1 ⟨by omega, by omega⟩)).mono ?_
                rintro _ u5 ⟨rfl, hb⟩
                have HB5 := Lib.hid (HB4.out.trans (hb.mono HB4.out.size))
                have HM5 := Lib.hid (HM4.out.below hb HM4.out.lt)
                have HR5 := Lib.hid (HR4.out.below hb HR4.out.lt)
                clear hb
                clear m0 m1 hmlt
                have t0 := HR5.out.frozen 0; have t1 := HR5.out.frozen 1
                have r0 := HR5.out.cell 0; have r1 := HR5.out.cell 1
                have hrlt := HR5.out.lt
                simp at r0 r1
                go_wp2_with fail
                have hyS := (HR5.out.set_ 0 (.int .i64 0)).set_ 1 (.slice none 0 0)
                have f0 := hyS.cell 0; have f1 := hyS.cell 1
                simp at f0 f1
                have HBW := Lib.hid ((HB5.out.setCell (p := ⟨w.heap.size + 1, 0, none⟩) (Nat.le_succ _) (.int .i64 0)).setCell (p := ⟨w.heap.size + 1, 1, none⟩) (Nat.le_succ _) (.slice none 0 0))
                exact bodyPost_ret (v := .tuple #[.agg #[.int .i64 0, .slice none 0 0], .int .i64 0, .int .i64 (23)]) (by simp [results, Try.results37, go_sem, f0, f1]) rfl ⟨⟨_, rfl, Or.inl ⟨_, by decide, E.out, rfl⟩⟩, HBW.out⟩
              · have E0 := Lib.hid (show addE m y.id role a concept = if m.nodes.length = 4096 ∨ 1048576 < m.next then 4 else 0 by rw [EK.out, hsp, kidE_ok hdd]; rfl)
                have HKE := Lib.hid (show kidE (spotI y.kids (inL m y role) a) d 1 = 0 by rw [hsp, kidE_ok hdd])
                have hi0 := (spotI_le inL_sub hsp).1
                obtain ⟨i0, hi0'⟩ : ∃ i0 : Nat, i = i0 := ⟨i.toNat, by omega⟩
                subst hi0'
                have HSPI := Lib.hid hsp
                clear hsp EK hdd
                go_enter Try.func37, Try.ntmps37
                go_wp2_with fail
                (try rw [HU0.out])
                refine (HC2.out).mono ?_
                rintro _ u1 ⟨rfl, hb⟩
                have HB1 := Lib.hid (HB0.out.trans (hb.mono HB0.out.size))
                have HM1 := Lib.hid (HM0.out.below hb HM0.out.lt)
                have HR1 := Lib.hid (HR0.out.below hb HR0.out.lt)
                clear hb
                go_wp2_with fail
                refine (aword_is hcs HWC.out u1).mono ?_
                rintro _ u2 ⟨rfl, hb⟩
                have HB2 := Lib.hid (HB1.out.trans (hb.mono HB1.out.size))
                have HM2 := Lib.hid (HM1.out.below hb HM1.out.lt)
                have HR2 := Lib.hid (HR1.out.below hb HR1.out.lt)
                clear hb
                go_wp2_with fail
                refine (aword_is hrs HWR2.out u2).mono ?_
                rintro _ u3 ⟨rfl, hb⟩
                have HB3 := Lib.hid (HB2.out.trans (hb.mono HB2.out.size))
                have HM3 := Lib.hid (HM2.out.below hb HM2.out.lt)
                have HR3 := Lib.hid (HR2.out.below hb HR2.out.lt)
                clear hb
                have m0 := HM3.out.cell 0; have m1 := HM3.out.cell 1
                have hmlt := HM3.out.lt
                simp at m0 m1
                go_wp2_with fail
                refine (int_is HAT2.out (place_any A c m.next y.id m.nodes u3 F (fun b hb => Nat.lt_of_lt_of_le (hF b hb) HB3.out.size) (HH.out.keep ENode.stays (Keep.below HB3.out hF) (fun _ h => h)) HS.out hpr (by omega))).mono ?_
                rintro _ u4 ⟨rfl, hb⟩
                have HB4 := Lib.hid (HB3.out.trans (hb.mono HB3.out.size))
                have HM4 := Lib.hid (HM3.out.below hb HM3.out.lt)
                have HR4 := Lib.hid (HR3.out.below hb HR3.out.lt)
                clear hb
                clear m0 m1 hmlt
                have m0 := HM4.out.cell 0; have m1 := HM4.out.cell 1
                have hmlt := HM4.out.lt
                simp at m0 m1
                go_wp2_with fail
                refine (int_is HKE.out (goalKid_any A c m u4 F (fun b hb => Nat.lt_of_lt_of_le (hF b hb) HB4.out.size) (HH.out.keep ENode.stays (Keep.below HB4.out hF) (fun _ h => h)) HT.out HS.out (fun x hx => (HZ.out x hx).2.1) (fun x hx => (HZ.out x hx).2.2) (by omega) jp hjp y HYE.out (HK4.out y HYm.out) role a ha d HD.out hd6 1 ⟨by omega, by omega⟩)).mono ?_
                rintro _ u5 ⟨rfl, hb⟩
                have HB5 := Lib.hid (HB4.out.trans (hb.mono HB4.out.size))
                have HM5 := Lib.hid (HM4.out.below hb HM4.out.lt)
                have HR5 := Lib.hid (HR4.out.below hb HR4.out.lt)
                clear hb
                clear m0 m1 hmlt
                by_cases hfl : m.nodes.length = 4096
                · have E := Lib.hid (show addE m y.id role a concept = 4 by rw [E0.out, if_pos (Or.inl hfl)])
                  have hq1 : ((m.nodes.length : Int) == 4096) = true := by rw [hfl]; rfl
                  have hq2 : decide ((4096 : Int) ≤ (m.nodes.length : Int)) = true := decide_eq_true (by omega)
                  clear hfl
                  have m0 := HM5.out.cell 0; have m1 := HM5.out.cell 1
                  have hmlt := HM5.out.lt
                  simp at m0 m1
                  have t0 := HR5.out.frozen 0; have t1 := HR5.out.frozen 1
                  have r0 := HR5.out.cell 0; have r1 := HR5.out.cell 1
                  have hrlt := HR5.out.lt
                  simp at r0 r1
                  go_wp2_with fail
                  have hyS := (HR5.out.set_ 0 (.int .i64 0)).set_ 1 (.slice none 0 0)
                  have f0 := hyS.cell 0; have f1 := hyS.cell 1
                  simp at f0 f1
                  have HBW := Lib.hid ((HB5.out.setCell (p := ⟨w.heap.size + 1, 0, none⟩) (Nat.le_succ _) (.int .i64 0)).setCell (p := ⟨w.heap.size + 1, 1, none⟩) (Nat.le_succ _) (.slice none 0 0))
                  exact bodyPost_ret (v := .tuple #[.agg #[.int .i64 0, .slice none 0 0], .int .i64 0, .int .i64 (4)]) (by simp [results, Try.results37, go_sem, f0, f1]) rfl ⟨⟨_, rfl, Or.inl ⟨_, by decide, E.out, rfl⟩⟩, HBW.out⟩
                · have hq1 : ((m.nodes.length : Int) == 4096) = false := beq_eq_false_iff_ne.2 (by omega)
                  have hq2 : decide ((4096 : Int) ≤ (m.nodes.length : Int)) = false := decide_eq_false (by omega)
                  by_cases hfn : 1048576 < m.next
                  · have E := Lib.hid (show addE m y.id role a concept = 4 by rw [E0.out, if_pos (Or.inr hfn)])
                    have hq3 : decide ((1048576 : Int) < m.next) = true := decide_eq_true hfn
                    clear hfn
                    have m0 := HM5.out.cell 0; have m1 := HM5.out.cell 1
                    have hmlt := HM5.out.lt
                    simp at m0 m1
                    have t0 := HR5.out.frozen 0; have t1 := HR5.out.frozen 1
                    have r0 := HR5.out.cell 0; have r1 := HR5.out.cell 1
                    have hrlt := HR5.out.lt
                    simp at r0 r1
                    go_wp2_with fail
                    have hyS := (HR5.out.set_ 0 (.int .i64 0)).set_ 1 (.slice none 0 0)
                    have f0 := hyS.cell 0; have f1 := hyS.cell 1
                    simp at f0 f1
                    have HBW := Lib.hid ((HB5.out.setCell (p := ⟨w.heap.size + 1, 0, none⟩) (Nat.le_succ _) (.int .i64 0)).setCell (p := ⟨w.heap.size + 1, 1, none⟩) (Nat.le_succ _) (.slice none 0 0))
                    exact bodyPost_ret (v := .tuple #[.agg #[.int .i64 0, .slice none 0 0], .int .i64 0, .int .i64 (4)]) (by simp [results, Try.results37, go_sem, f0, f1]) rfl ⟨⟨_, rfl, Or.inl ⟨_, by decide, E.out, rfl⟩⟩, HBW.out⟩
                  · have hq3 : decide ((1048576 : Int) < m.next) = false := decide_eq_false hfn
                    have E := Lib.hid (show addE m y.id role a concept = 0 by rw [E0.out, if_neg (by omega)])
                    have hnx2 : m.next ≤ 1048576 := by omega
                    have m0 := HM5.out.cell 0; have m1 := HM5.out.cell 1
                    have hmlt := HM5.out.lt
                    simp at m0 m1
                    go_wp2_with fail
                    refine (twinA_any A c m u5 F (fun b hb => Nat.lt_of_lt_of_le (hF b hb) HB5.out.size) (HH.out.keep ENode.stays (Keep.below HB5.out hF) (fun _ h => h)) HZ'.out (by omega)).mono ?_
                    rintro _ u6 ⟨vt, rfl, l, hown, hlm, hb⟩
                    have HB6 := Lib.hid (HB5.out.trans (hb.mono HB5.out.size))
                    have HM6 := Lib.hid (HM5.out.below hb HM5.out.lt)
                    have HR6 := Lib.hid (HR5.out.below hb HR5.out.lt)
                    have HSZ := Lib.hid HB5.out.size
                    have HO := Lib.hid hown; have HLM := Lib.hid hlm
                    have hll : l.length = m.nodes.length := by rw [← hlm]; simp
                    have HLX := Lib.hid hll
                    have hlb : l.length ≤ 4096 := by omega
                    clear hll
                    have hRS := HR5.out.lt
                    have hbs := hb.size
                    obtain ⟨Av, cv, rfl⟩ := own_shape hown.row
                    clear hb hown hlm m0 m1 hmlt
                    have m0 := HM6.out.cell 0; have m1 := HM6.out.cell 1
                    have hmlt := HM6.out.lt
                    simp at m0 m1
                    go_upto_region 13 with fail
                    obtain ⟨p, hp⟩ : ∃ p, u6.heap.size = p := ⟨_, rfl⟩
                    obtain ⟨x1, hx1⟩ : ∃ z : World, u6.alloc (.cells #[.int .i64 m.next, .slice Av l.length cv] 24) = z := ⟨_, rfl⟩
                    have HX : Hid (Below u6.heap.size u6 x1) := Lib.hid (by rw [← hx1]; exact (Below.refl _ _).alloc (Nat.le_refl _) _)
                    have HP : Hid (Blk x1 p 24 #[.int .i64 m.next, .slice Av l.length cv]) := Lib.hid (by rw [← hx1, ← hp]; exact Blk.new _ _ _)
                    have HOx := Lib.hid (HO.out.below HX.out)
                    have HBx := Lib.hid (HB6.out.trans (HX.out.mono HB6.out.size))
                    have HMx := Lib.hid (HM6.out.below HX.out HM6.out.lt)
                    have HRx := Lib.hid (HR6.out.below HX.out HR6.out.lt)
                    have HPL : Hid (∀ b, some b ∈ ((Value.slice Av l.length cv).ownBlock :: allBlocks l) → b < p) := Lib.hid (fun b hb => by rw [← hp]; exact (HO.out.lt b hb).2)
                    have hpw : w.heap.size + 1 < p := by have := HR6.out.lt; omega
                    (try rw [hx1])
                    (try rw [hp])
                    clear hx1 m0 m1 hmlt HO
                    have hup : u5.heap.size ≤ p := by omega
                    clear hp
                    have p0 := HP.out.cell 0; have p1 := HP.out.cell 1
                    have z0 := HP.out.frozen 0; have z1 := HP.out.frozen 1
                    have hplt := HP.out.lt
                    simp at p0 p1
                    have m0 := HMx.out.cell 0; have m1 := HMx.out.cell 1
                    have hmlt := HMx.out.lt
                    simp at m0 m1
                    have hw1 : IntKind.i64.wrap (m.next + 1) = m.next + 1 := by rw [IntKind.wrap_i64]; omega
                    have HP2 := Lib.hid (HP.out.set_ 0 (.int .i64 (m.next + 1)))
                    have HB2x := Lib.hid (HBx.out.setCell (p := ⟨p, 0, none⟩) (by show w.heap.size ≤ p; omega) (.int .i64 (m.next + 1)))
                    have HM2x := Lib.hid (HMx.out.far (p := ⟨p, 0, none⟩) (by show w.heap.size ≠ p; omega) (.int .i64 (m.next + 1)))
                    have HR2x := Lib.hid (HRx.out.far (p := ⟨p, 0, none⟩) (by show w.heap.size + 1 ≠ p; omega) (.int .i64 (m.next + 1)))
                    have HO2x : Hid (OwnM (x1.setCell ⟨p, 0, none⟩ (.int .i64 (m.next + 1))) u5.heap.size (.slice Av l.length cv) l) := Lib.hid ⟨own_keep HOx.out.row fun b e => Below.heap_setCell _ _ _ _ (by have := HPL.out b (by rw [← e]; exact List.mem_cons_self ..); show b ≠ p; omega), fun y hy => (HOx.out.lists y hy).keep fun b hb => Below.heap_setCell _ _ _ _ (by have := HPL.out b (List.mem_cons_of_mem _ (mem_all hy hb)); show b ≠ p; omega), HOx.out.dis⟩
                    have HWE : Hid (∃ z, z = x1.setCell ⟨p, 0, none⟩ (.int .i64 (m.next + 1))) := Lib.hid ⟨_, rfl⟩
                    have hsx : p < (x1.setCell ⟨p, 0, none⟩ (.int .i64 (m.next + 1))).heap.size := by simpa using hplt
                    simp only [Array.setIfInBounds] at HP2
                    go_upto_region 15 with fail
                    obtain ⟨x2, hx2⟩ := HWE.out
                    rw [← hx2] at HP2 HB2x HM2x HR2x HO2x hsx
                    (try rw [← hx2])
                    clear hx2 HWE p0 p1 z0 z1 hplt m0 m1 hmlt HP HBx HMx HRx HOx
                    have HP2' : Hid (Blk x2 p 24 #[.int .i64 (m.next + 1), .slice Av l.length cv]) := Lib.hid (by simpa using HP2.out)
                    clear HP2
                    have HP := HP2'; have HBx := HB2x; have HMx := HM2x; have HRx := HR2x; have HOx := HO2x
                    clear HP2' HB2x HM2x HR2x HO2x
                    have p0 := HP.out.cell 0; have p1 := HP.out.cell 1
                    have z0 := HP.out.frozen 0; have z1 := HP.out.frozen 1
                    have hplt := HP.out.lt
                    simp at p0 p1
                    obtain ⟨q, hq⟩ : ∃ q, x2.heap.size = q := ⟨_, rfl⟩
                    have HQ : Hid (Blk (x2.alloc (.cells #[.int .i64 m.next, .string concept, .int .i64 0, .string ⟨#[]⟩, .slice none 0 0, .slice none 0 0, .slice none 0 0] 38)) q 38 #[.int .i64 m.next, .string concept, .int .i64 0, .string ⟨#[]⟩, .slice none 0 0, .slice none 0 0, .slice none 0 0]) := Lib.hid (by rw [← hq]; exact Blk.new _ _ _)
                    have HOq := Lib.hid (HOx.out.below ((Below.refl x2.heap.size x2).alloc (Nat.le_refl _) (.cells #[.int .i64 m.next, .string concept, .int .i64 0, .string ⟨#[]⟩, .slice none 0 0, .slice none 0 0, .slice none 0 0] 38)))
                    have HPq := Lib.hid (HP.out.alloc (.cells #[.int .i64 m.next, .string concept, .int .i64 0, .string ⟨#[]⟩, .slice none 0 0, .slice none 0 0, .slice none 0 0] 38))
                    have hqs : u5.heap.size ≤ x2.heap.size := by omega
                    have HBq := Lib.hid (HBx.out.alloc HBx.out.size (.cells #[.int .i64 m.next, .string concept, .int .i64 0, .string ⟨#[]⟩, .slice none 0 0, .slice none 0 0, .slice none 0 0] 38))
                    have HMq := Lib.hid (HMx.out.alloc (.cells #[.int .i64 m.next, .string concept, .int .i64 0, .string ⟨#[]⟩, .slice none 0 0, .slice none 0 0, .slice none 0 0] 38))
                    have HRq := Lib.hid (HRx.out.alloc (.cells #[.int .i64 m.next, .string concept, .int .i64 0, .string ⟨#[]⟩, .slice none 0 0, .slice none 0 0, .slice none 0 0] 38))
                    go_wp2_with (at_builtin; refine wpList_append_from _ rfl (.tmp 70) (.tmp 74) 22 rfl u5.heap.size 38 Try.underlying22 node_info rfl (by omega) (.slice Av l.length cv) l.length (l.flatMap LN.cells) (by first | rfl | simp [Act.eval]) HOq.out.row (some ⟨x2.heap.size, 0, none⟩) 1 1 (LN.cells (⟨newN m concept 0 ⟨#[]⟩, .slice none 0 0, .slice none 0 0, .slice none 0 0⟩ : LN)) (by first | rfl | simp [Act.eval]) rfl (by simp) (fun ad e => by cases e; rw [hq]; exact news_cells HQ.out) (fun u hu => by simp only [LN.cells, nodeCellsA, newN, List.mem_cons, List.not_mem_nil, or_false] at hu; rcases hu with rfl | rfl | rfl | rfl | rfl | rfl | rfl <;> rfl) (by unfold maxLen; omega) (by omega) (by simp; omega) ?_)
                    intro A6 c6 w6 own6 hg6 hat6
                    have hrow := fun k (e : (Value.slice Av l.length cv).ownBlock = some k) => HPL.out k (by rw [← e]; exact List.mem_cons_self ..)
                    have hrow2 := fun k (e : (Value.slice Av l.length cv).ownBlock = some k) => (HOq.out.row.lt k e).1
                    have HW6 := Lib.hid (HOq.out.push (x := (⟨newN m concept 0 ⟨#[]⟩, .slice none 0 0, .slice none 0 0, .slice none 0 0⟩ : LN)) ⟨World.ownsRow_nil _ _ _ _, OwnI.nil _ _, World.ownsRow_nil _ _ _ _⟩ (fun b => by simp [LN.blocks, Value.ownBlock]) (fun b hb => by simp [LN.blocks, Value.ownBlock] at hb) own6 hg6 (by rcases hat6 with e | e; exact .inl e; exact .inr (by rw [e]; simp [hq])))
                    have HB6 := Lib.hid (HBq.out.grown hg6 (by simp; have := HBx.out.size; omega) (fun k e => by have := hrow2 k e; have := HSZ.out; omega))
                    have HP6 := Lib.hid (HPq.out.grown hg6 (fun e => by have := hrow _ e.symm; omega))
                    have HM6 := Lib.hid (HMq.out.grown hg6 (fun e => by have := hrow2 _ e.symm; have := HSZ.out; omega))
                    have HR6 := Lib.hid (HRq.out.grown hg6 (fun e => by have := hrow2 _ e.symm; omega))
                    have HAT : Hid (∀ b, some b ∈ ((Value.slice A6 (l.length + 1) c6).ownBlock :: allBlocks (l ++ [(⟨newN m concept 0 ⟨#[]⟩, .slice none 0 0, .slice none 0 0, .slice none 0 0⟩ : LN)])) → b ≠ p) := Lib.hid (fun b hb e => by
                      subst e
                      rcases List.mem_cons.1 hb with hb | hb
                      · rcases hat6 with e | e
                        · have := hrow b (by rw [← e]; exact hb.symm); omega
                        · have h2 := hb.trans e
                          injection h2 with h2
                          (try simp at h2)
                          omega
                      · rw [all_append, List.mem_append] at hb
                        rcases hb with hb | hb
                        · have := HPL.out b (List.mem_cons_of_mem _ hb); omega
                        · simp [allBlocks, LN.blocks, Value.ownBlock] at hb)
                    have hs6 := hg6.size
                    clear own6 hg6 hat6 hrow hrow2 p0 p1 z0 z1
                    have p0 := HP6.out.cell 0; have p1 := HP6.out.cell 1
                    have z0 := HP6.out.frozen 0; have z1 := HP6.out.frozen 1
                    have hplt6 := HP6.out.lt
                    simp at p0 p1
                    have HP7 := Lib.hid (HP6.out.set_ 1 (.slice A6 (l.length + 1) c6))
                    have HB7 := Lib.hid (HB6.out.setCell (p := ⟨p, 1, none⟩) (by show w.heap.size ≤ p; omega) (.slice A6 (l.length + 1) c6))
                    have HM7 := Lib.hid (HM6.out.far (p := ⟨p, 1, none⟩) (by show w.heap.size ≠ p; omega) (.slice A6 (l.length + 1) c6))
                    have HR7 := Lib.hid (HR6.out.far (p := ⟨p, 1, none⟩) (by show w.heap.size + 1 ≠ p; omega) (.slice A6 (l.length + 1) c6))
                    have HO7 : Hid (OwnM (w6.setCell ⟨p, 1, none⟩ (.slice A6 (l.length + 1) c6)) u5.heap.size (.slice A6 (l.length + 1) c6) (l ++ [(⟨newN m concept 0 ⟨#[]⟩, .slice none 0 0, .slice none 0 0, .slice none 0 0⟩ : LN)])) := Lib.hid ⟨own_keep HW6.out.row fun b e => Below.heap_setCell _ _ _ _ (HAT.out b (by rw [← e]; exact List.mem_cons_self ..)), fun y hy => (HW6.out.lists y hy).keep fun b hb => Below.heap_setCell _ _ _ _ (HAT.out b (List.mem_cons_of_mem _ (mem_all hy hb))), HW6.out.dis⟩
                    have HWE : Hid (∃ z, z = w6.setCell ⟨p, 1, none⟩ (.slice A6 (l.length + 1) c6)) := Lib.hid ⟨_, rfl⟩
                    have hs7 : u5.heap.size ≤ (w6.setCell ⟨p, 1, none⟩ (.slice A6 (l.length + 1) c6)).heap.size := by simp at hs6 ⊢; omega
                    go_upto_region 16 with fail
                    obtain ⟨x3, hx3⟩ := HWE.out
                    rw [← hx3] at HP7 HB7 HM7 HR7 HO7 hs7
                    (try rw [← hx3])
                    clear hx3 HWE p0 p1 z0 z1 hplt6 HP6 HB6 HM6 HR6 HW6 hs6 HQ HOq HPq HBq HMq HRq hq HP HBx HMx HRx HOx
                    have HP8 : Hid (Blk x3 p 24 #[.int .i64 (m.next + 1), .slice A6 (l.length + 1) c6]) := Lib.hid (by simpa using HP7.out)
                    clear HP7
                    have hll := HLX.out
                    have HMAP : Hid ((l ++ [(⟨newN m concept 0 ⟨#[]⟩, .slice none 0 0, .slice none 0 0, .slice none 0 0⟩ : LN)]).map LN.n = m.nodes ++ [newN m concept 0 ⟨#[]⟩]) := Lib.hid (by rw [List.map_append, HLM.out]; rfl)
                    have HLL := Lib.hid (show (l ++ [(⟨newN m concept 0 ⟨#[]⟩, .slice none 0 0, .slice none 0 0, .slice none 0 0⟩ : LN)]).length = l.length + 1 by simp)
                    have p0 := HP8.out.cell 0; have p1 := HP8.out.cell 1
                    have hplt := HP8.out.lt
                    simp at p0 p1
                    have HSR := Lib.hid (more_srt (n0 := newN m concept 0 ⟨#[]⟩) HCM.out hnx2 rfl)
                    have HCL := Lib.hid (more_closed (n0 := newN m concept 0 ⟨#[]⟩) HCM.out rfl)
                    have HKR := Lib.hid (more_kids (n0 := newN m concept 0 ⟨#[]⟩) (fun x hx => (HZ.out x hx).2.2) rfl)
                    obtain ⟨Yl, hYl⟩ : ∃ Yl, (l ++ [(⟨newN m concept 0 ⟨#[]⟩, .slice none 0 0, .slice none 0 0, .slice none 0 0⟩ : LN)])[jp]? = some Yl := ⟨_, List.getElem?_eq_getElem (by rw [HLL.out]; omega)⟩
                    have HYl := Lib.hid hYl
                    have HYn : Hid (Yl.n = y) := Lib.hid (by
                      have h1 : ((l ++ [(⟨newN m concept 0 ⟨#[]⟩, .slice none 0 0, .slice none 0 0, .slice none 0 0⟩ : LN)]).map LN.n)[jp]? = some Yl.n := by rw [List.getElem?_map, hYl]; rfl
                      rw [HMAP.out, List.getElem?_append_left hjp, List.getElem?_eq_getElem hjp, HYE.out] at h1
                      injection h1 with h1; exact h1.symm)
                    clear hYl
                    have HHG := Lib.hid (hangKid_any (m.next + 1) (.slice A6 (l.length + 1) c6) (l ++ [(⟨newN m concept 0 ⟨#[]⟩, .slice none 0 0, .slice none 0 0, .slice none 0 0⟩ : LN)]) x3 u5.heap.size _ (fun _ h => h) HO7.out hs7 (by rw [HMAP.out]; exact HSR.out) (by rw [HMAP.out]; exact HKR.out) (by rw [HLL.out]; omega) l.length (by rw [HLL.out]; omega) (⟨newN m concept 0 ⟨#[]⟩, .slice none 0 0, .slice none 0 0, .slice none 0 0⟩ : LN) (by simp) jp (by rw [HLL.out]; omega) Yl (by have h9 := HYl.out; rw [List.getElem?_eq_getElem (by rw [HLL.out]; omega)] at h9; injection h9) (by omega) role a ha (by rw [HYn.out, HMAP.out, hll, set_last]; exact more_closed (n0 := newN m concept y.id role) HCM.out rfl) (i0 : Int) (by rw [HYn.out, HMAP.out, hll, set_last, show ({ newN m concept 0 ⟨#[]⟩ with parent := y.id, role := role } : ANode) = newN m concept y.id role from rfl, more_inL HCM.out hnx2 rfl HYm.out]; exact HSPI.out) (by rw [HYn.out]; exact HK4.out y HYm.out))
                    have HHG2 := HHG.out
                    rw [show ((⟨newN m concept 0 ⟨#[]⟩, .slice none 0 0, .slice none 0 0, .slice none 0 0⟩ : LN)).n.id = m.next from rfl, HYn.out] at HHG2
                    have HHG3 := Lib.hid HHG2
                    clear HHG HHG2 hll
                    go_wp2_with fail
                    refine HHG3.out.mono ?_
                    rintro _ x5 ⟨rfl, l2, hown2, hmap2, hk5⟩
                    have HB10 := Lib.hid (HB7.out.trans (hk5.toBelow (B := w.heap.size) HB7.out.size (fun b hb => by have := (HO7.out.lt b hb).1; have := HSZ.out; omega)))
                    have HRA := Lib.hid (hk5.blk HR7.out (fun hb => by have := (HO7.out.lt _ hb).1; omega))
                    have HPA := Lib.hid (hk5.blk HP8.out (fun hb => HAT.out _ hb rfl))
                    have HMA := Lib.hid (hk5.blk HM7.out (fun hb => by have := (HO7.out.lt _ hb).1; omega))
                    have HOW2 := Lib.hid hown2
                    have HMAP2 := Lib.hid hmap2
                    clear hown2 hmap2 hk5 p0 p1 hplt HHG3
                    have p0 := HPA.out.cell 0; have p1 := HPA.out.cell 1
                    have hplt := HPA.out.lt
                    simp at p0 p1
                    have t0 := HRA.out.frozen 0; have t1 := HRA.out.frozen 1
                    have r0 := HRA.out.cell 0; have r1 := HRA.out.cell 1
                    have hrlt := HRA.out.lt
                    simp at r0 r1
                    go_wp2_with fail
                    have HRZ := HRA; have HBZ := HB10; have HOZ := HOW2
                    have hyS := (HRZ.out.set_ 0 (.int .i64 (m.next + 1))).set_ 1 (.slice A6 (l.length + 1) c6)
                    have f0 := hyS.cell 0; have f1 := hyS.cell 1
                    simp at f0 f1
                    have HBW := Lib.hid ((HBZ.out.setCell (p := ⟨w.heap.size + 1, 0, none⟩) (Nat.le_succ _) (.int .i64 (m.next + 1))).setCell (p := ⟨w.heap.size + 1, 1, none⟩) (Nat.le_succ _) (.slice A6 (l.length + 1) c6))
                    refine bodyPost_ret (v := .tuple #[.agg #[.int .i64 (m.next + 1), .slice A6 (l.length + 1) c6], .int .i64 m.next, .int .i64 0]) (by simp [results, Try.results37, go_sem, f0, f1]) rfl ⟨⟨_, rfl, Or.inr ⟨E.out, _, l2, rfl, ?_, ?_⟩⟩, HBW.out⟩
                    · refine (HOZ.out.keep (fun b h1 _ => ?_)).weaken HSZ.out
                      exact (Below.heap_setCell _ _ _ _ (by show b ≠ w.heap.size + 1; omega)).trans (Below.heap_setCell _ _ _ _ (by show b ≠ w.heap.size + 1; omega))
                    · exact Or.inr ⟨by omega, jp, hjp, by rw [HYE.out], i0, by rw [HYE.out]; exact HSPI.out, by rw [HMAP2.out, HMAP.out, HYE.out]; unfold addKid; rw [HLX.out, set_last, set_old _ _ _ hjp]; rfl⟩
          · have E := Lib.hid (addE_node (role := role) (a := a) (concept := concept) HCM.out HWC.out hp0 HWR2.out (by rw [hj2]; omega))
            have HAT2 := Lib.hid hj2
            clear hj1 hj2
            go_enter Try.func37, Try.ntmps37
            go_wp2_with fail
            (try rw [HU0.out])
            refine (HC2.out).mono ?_
            rintro _ u1 ⟨rfl, hb⟩
            have HB1 := Lib.hid (HB0.out.trans (hb.mono HB0.out.size))
            have HM1 := Lib.hid (HM0.out.below hb HM0.out.lt)
            have HR1 := Lib.hid (HR0.out.below hb HR0.out.lt)
            clear hb
            go_wp2_with fail
            refine (aword_is hcs HWC.out u1).mono ?_
            rintro _ u2 ⟨rfl, hb⟩
            have HB2 := Lib.hid (HB1.out.trans (hb.mono HB1.out.size))
            have HM2 := Lib.hid (HM1.out.below hb HM1.out.lt)
            have HR2 := Lib.hid (HR1.out.below hb HR1.out.lt)
            clear hb
            go_wp2_with fail
            refine (aword_is hrs HWR2.out u2).mono ?_
            rintro _ u3 ⟨rfl, hb⟩
            have HB3 := Lib.hid (HB2.out.trans (hb.mono HB2.out.size))
            have HM3 := Lib.hid (HM2.out.below hb HM2.out.lt)
            have HR3 := Lib.hid (HR2.out.below hb HR2.out.lt)
            clear hb
            have m0 := HM3.out.cell 0; have m1 := HM3.out.cell 1
            have hmlt := HM3.out.lt
            simp at m0 m1
            go_wp2_with fail
            refine (int_is HAT2.out (place_any A c m.next parent m.nodes u3 F (fun b hb => Nat.lt_of_lt_of_le (hF b hb) HB3.out.size) (HH.out.keep ENode.stays (Keep.below HB3.out hF) (fun _ h => h)) HS.out hpr (by omega))).mono ?_
            rintro _ u4 ⟨rfl, hb⟩
            have HB4 := Lib.hid (HB3.out.trans (hb.mono HB3.out.size))
            have HM4 := Lib.hid (HM3.out.below hb HM3.out.lt)
            have HR4 := Lib.hid (HR3.out.below hb HR3.out.lt)
            clear hb
            clear m0 m1 hmlt
            have t0 := HR4.out.frozen 0; have t1 := HR4.out.frozen 1
            have r0 := HR4.out.cell 0; have r1 := HR4.out.cell 1
            have hrlt := HR4.out.lt
            simp at r0 r1
            go_wp2_with fail
            have hyS := (HR4.out.set_ 0 (.int .i64 0)).set_ 1 (.slice none 0 0)
            have f0 := hyS.cell 0; have f1 := hyS.cell 1
            simp at f0 f1
            have HBW := Lib.hid ((HB4.out.setCell (p := ⟨w.heap.size + 1, 0, none⟩) (Nat.le_succ _) (.int .i64 0)).setCell (p := ⟨w.heap.size + 1, 1, none⟩) (Nat.le_succ _) (.slice none 0 0))
            exact bodyPost_ret (v := .tuple #[.agg #[.int .i64 0, .slice none 0 0], .int .i64 0, .int .i64 (20)]) (by simp [results, Try.results37, go_sem, f0, f1]) rfl ⟨⟨_, rfl, Or.inl ⟨_, by decide, E.out, rfl⟩⟩, HBW.out⟩
  · have HC2 := Lib.hid (int_is (checkI_no hc) HC.out)
    have E := Lib.hid (addE_check (parent := parent) (role := role) (a := a) (concept := concept) hc)
    clear hc HC
    go_enter Try.func37, Try.ntmps37
    go_wp2_with fail
    (try rw [HU0.out])
    refine (HC2.out).mono ?_
    rintro _ u1 ⟨rfl, hb⟩
    have HB1 := Lib.hid (HB0.out.trans (hb.mono HB0.out.size))
    have HM1 := Lib.hid (HM0.out.below hb HM0.out.lt)
    have HR1 := Lib.hid (HR0.out.below hb HR0.out.lt)
    clear hb
    have t0 := HR1.out.frozen 0; have t1 := HR1.out.frozen 1
    have r0 := HR1.out.cell 0; have r1 := HR1.out.cell 1
    have hrlt := HR1.out.lt
    simp at r0 r1
    go_wp2_with fail
    have hyS := (HR1.out.set_ 0 (.int .i64 0)).set_ 1 (.slice none 0 0)
    have f0 := hyS.cell 0; have f1 := hyS.cell 1
    simp at f0 f1
    have HBW := Lib.hid ((HB1.out.setCell (p := ⟨w.heap.size + 1, 0, none⟩) (Nat.le_succ _) (.int .i64 0)).setCell (p := ⟨w.heap.size + 1, 1, none⟩) (Nat.le_succ _) (.slice none 0 0))
    exact bodyPost_ret (v := .tuple #[.agg #[.int .i64 0, .slice none 0 0], .int .i64 0, .int .i64 (29)]) (by simp [results, Try.results37, go_sem, f0, f1]) rfl ⟨⟨_, rfl, Or.inl ⟨_, by decide, E.out, rfl⟩⟩, HBW.out⟩
end Go.Proofs.Ytmafhaadcjgcbaa
