import Derived.Test.YtpkapommekkbcaaDoorAHangsP
import Derived.Test.YtpkapommekkbcaaDoorAAlone
import Derived.Test.YtpkapommekkbcaaDoorQTail
set_option linter.unusedSimpArgs false
set_option linter.unusedVariables false
namespace Go.Proofs.YtpkapommekkbcaaDoor
open Go Go.RowKit

set_option maxRecDepth 100000 in
set_option maxHeartbeats 2000000 in
theorem hangs_any (A : Option Addr) (c : Nat) (m : AModel) (w : World) (F : Nat → Prop) (hF : ∀ b, F b → b < w.heap.size) (h : RowOf 7 ENode w F A m.nodes) (hI : IdsOK m)
    (hk : ∀ x ∈ m.nodes, x.kids.length ≤ 4096) (hr : ∀ x ∈ m.nodes, InR x.parent ∧ ∀ k ∈ x.kids, InR k) :
    Calls Tryd.prog 30 #[.agg #[.int .i64 m.next, .slice A m.nodes.length c]] w
      fun e w' => e = .returned (.int .i64 (hangsI m)) ∧ Below w.heap.size w w' := by
  have hl4 : m.nodes.length ≤ 4096 := hI.1.2.2
  have hs := hI.srtB
  have hs1 := hI.srt
  have hmk : ∀ w0, (Instr.makeSlice 34 (.int .i64 m.nodes.length) (.int .i64 m.nodes.length)).run Tryd.prog w0 = .ok (.slice (some ⟨w0.heap.size, 0, none⟩) m.nodes.length m.nodes.length) (w0.alloc (.cells (madeCells #[.int .i64 0] m.nodes.length) 3)) := by
    intro w0
    obtain ⟨i, hi, hz, hsize, hby⟩ := info_parts int_info
    have := run_make (P := Tryd.prog) w0 34 3 i (.int .i64 0) Tryd.underlying34 hi hz .i64 .i64 m.nodes.length m.nodes.length (by omega) (by omega) (by rw [hby]; omega) (by omega)
    rw [hsize] at this
    simpa [Value.cells] using this
  go_enter Tryd.func30, Tryd.ntmps30
  go_wp2_with fail
  go_step3
  go_wp2_with fail
  go_loopg [21] m.nodes.length (fun g s21 wx => ∃ (i : Nat) (ml : List Nat), s21 = .int .i64 i ∧ g = m.nodes.length - i ∧ i ≤ m.nodes.length ∧ Below w.heap.size w wx ∧ Blk wx w.heap.size 24 #[.int .i64 m.next, .slice A m.nodes.length c] ∧ MetI wx (w.heap.size + 1) ml ∧ Cnt m (doneTo m i) ml ∧ (doneTo m i).length ≤ i * 4096 ∧ KidsUp m i)
  case atStart => exact ⟨0, _, rfl, rfl, Nat.zero_le _, ((Below.refl _ _).alloc (Nat.le_refl _) _).alloc (by simp) _, (Blk.new _ _ _).alloc _, by simpa using MetI.made (w.alloc (.cells #[.int .i64 m.next, .slice A m.nodes.length c] 24)) m.nodes.length, Cnt.start m, Nat.zero_le _, fun j _ hj => absurd hj (Nat.not_lt_zero _)⟩
  case round =>
    obtain ⟨i, ml, rfl, rfl, hil, hb, hmb, hme, hC, hdl, hK⟩ := hrel
    have HB := Lib.hid hb; have HM := Lib.hid hmb; have HE := Lib.hid hme; have HC := Lib.hid hC; have HK := Lib.hid hK
    have m1 := hmb.cell 1
    have hmlt := hmb.lt; have helt := Blk.lt hme
    simp at m1
    clear hmb hme hC hK
    by_cases hlt : i < m.nodes.length
    · have hlt' : (i : Int) < m.nodes.length := by omega
      have i0 : (0 : Int) ≤ i := by omega
      have hR := RowOf.keep ENode.stays (Keep.below hb hF) (F' := F) (fun _ h => h) h
      obtain ⟨b, off, Sp, cp, Sk, ck, Sr, cr, rfl, hbF, d0, d1, d2, d3, d4, d5, d6, ⟨_, _, _⟩, ⟨_, hk2, hk3⟩, ⟨_, _, _⟩⟩ := node_at hR hlt
      have hsz := hb.size
      have hkl := hk _ (List.getElem_mem hlt)
      have HBO := Lib.hid hb
      clear hR hb
      obtain ⟨n, hn⟩ : ∃ n, m.nodes[i] = n := ⟨_, rfl⟩
      have HN := Lib.hid hn
      rw [hn] at d0 d1 d2 d3 d4 d5 d6 hkl hk3
      clear hn
      go_wp2_with fail
      obtain ⟨wo, rfl⟩ : ∃ wo : World, wo = wr := ⟨_, rfl⟩
      go_loopg [28] n.kids.length (fun g s28 wx => ∃ (k : Nat) (ml : List Nat), s28 = .int .i64 k ∧ g = n.kids.length - k ∧ k ≤ n.kids.length ∧ Below w.heap.size w wx ∧ Blk wx w.heap.size 24 #[.int .i64 m.next, .slice (some ⟨b, off, none⟩) m.nodes.length c] ∧ MetI wx (w.heap.size + 1) ml ∧ Blk wx wo.heap.size 37 #[.int .i64 n.id, .string n.concept, .int .i64 n.parent, .string n.role, .slice Sp n.props.length cp, .slice Sk n.kids.length ck, .slice Sr n.refs.length cr] ∧ Cnt m (doneTo m i ++ n.kids.take k) ml ∧ KidTo m n k)
      case atStart => exact ⟨0, ml, rfl, rfl, Nat.zero_le _, HB.out.alloc hsz _, HM.out.alloc _, Blk.alloc HE.out _, Blk.new _ _ _, by simpa using HC.out, fun j _ hj => absurd hj (Nat.not_lt_zero _)⟩
      case round =>
        clear HB HM HE HC m1 d0 d1 d2 d3 d4 d5 d6
        obtain ⟨k, ml, rfl, rfl, hkk, hb, hmb, hme, hnb, hC, hKT⟩ := hrel
        have HB := Lib.hid hb; have HM := Lib.hid hmb; have HE := Lib.hid hme; have HC := Lib.hid hC; have HX := Lib.hid hnb; have HKT := Lib.hid hKT
        have hmlt2 := hmb.lt; have helt2 := Blk.lt hme; have hnlt2 := hnb.lt
        have m0 := hmb.cell 0; have m1 := hmb.cell 1; have n5 := hnb.cell 5
        simp at m0 m1 n5
        clear hmb hme hnb hC hKT
        by_cases hkt : k < n.kids.length
        · have hkt' : (k : Int) < n.kids.length := by omega
          have k0 : (0 : Int) ≤ k := by omega
          obtain ⟨b', off', rfl, hbF', d0⟩ := int_at (RowOf.keep EInt.stays (Keep.both HBO.out hb hF) (F' := F) (fun _ h => h) hk3) hkt
          have hir := (hr n (by rw [← HN.out]; exact List.getElem_mem hlt)).2 _ (List.getElem_mem hkt)
          have HIR := Lib.hid hir
          clear hir
          go_wp2_with fail
          refine (place_any _ c m.next n.kids[k] m.nodes _ F (by exact fun b hb' => Nat.lt_of_lt_of_le (hF b hb') HB.out.size) (by exact h.keep ENode.stays (Keep.below HB.out hF) (fun _ h => h)) hs HIR.out (by omega)).mono ?_
          rintro _ w2 ⟨rfl, hb2⟩
          have HB2 := Lib.hid (HB.out.trans (hb2.mono HB.out.size))
          have HM2 := Lib.hid (HM.out.below hb2 hmlt2)
          have HX2 := Lib.hid (HX.out.below hb2 hnlt2)
          have HE2 : Hid (MetI w2 (w.heap.size + 1) ml) := Lib.hid (Blk.below HE.out hb2 helt2)
          have m1 := HM2.out.cell 1; have n0 := HX2.out.cell 0
          simp at m1 n0
          have hwz := hb2.size
          clear hb2 d0 n5 m0
          rcases atI_cases m.nodes n.kids[k] with ⟨j, hj, hj1, hj2⟩ | ⟨hj1, hj2⟩
          · rw [hj2]
            have j0 : (0 : Int) ≤ j := by omega
            have j1 : decide ((j : Int) < 0) = false := decide_eq_false (by omega)
            have j2 : (j : Int) < m.nodes.length := by omega
            obtain ⟨b2, off2, _, _, _, _, _, _, e', hbF2, _, _, e2, _, _, _, _, _⟩ := node_at (RowOf.keep ENode.stays (Keep.below HB2.out hF) (F' := F) (fun _ h => h) h) hj
            injection e' with e'
            injection e' with e1 e3
            subst e1; subst e3
            have hjl : j < ml.length := by rw [HC.out.len]; exact hj
            have e3 := HE2.out.cell hjl
            have e4 := Blk.frozen HE2.out j
            have hml := HC.out.at_ j hjl hj
            have hcl : ml[j] ≤ 33554432 := by
              have h1 : (doneTo m i ++ n.kids.take k).length ≤ 4096 * 4096 + 4096 := by
                rw [List.length_append, List.length_take]
                have : i * 4096 ≤ 4096 * 4096 := Nat.mul_le_mul_right _ (by omega)
                omega
              have h2 := List.count_le_length (a := m.nodes[j].id) (l := doneTo m i ++ n.kids.take k)
              omega
            have HJ := Lib.hid hj1
            clear hj1 hj2 hml
            cases hpe : (m.nodes[j].parent != n.id)
            · have hp0 := (bne_eq_false_iff_eq.1 hpe)
              have HP0 := Lib.hid hp0; clear hp0
              have hc1 : (ml[j] : Int) + 1 ≤ 9223372036854775807 := by omega
              have HCN := Lib.hid (HC.out.next hs1 hj hjl HJ.out)
              go_wp2
              go_quiet (fail)
              go_wp2
              go_roundg (n.kids.length - (k + 1))
              case measure => omega
              case rel => exact ⟨k + 1, _, by go_num, rfl, by omega, (below_drewN HB2.out _).setCell (p := ⟨w.heap.size + 1, j, none⟩) (by simp) _, (HM2.out.drewN _).far (p := ⟨w.heap.size + 1, j, none⟩) (by show w.heap.size ≠ w.heap.size + 1; omega) _, MetI.set_ (Blk.drewN HE2.out _) j _, (HX2.out.drewN _).far (p := ⟨w.heap.size + 1, j, none⟩) (by show wo.heap.size ≠ w.heap.size + 1; omega) _, by rw [List.take_succ_eq_append_getElem hkt, ← List.append_assoc]; exact HCN.out, HKT.out.next (fun _ => ⟨_, List.getElem_mem hj, HJ.out, HP0.out⟩)⟩
            · have hp0 := (bne_iff_ne.1 hpe)
              have E := Lib.hid (hangsI_no (m := m) (fun hh => kids_no hlt (k := k) (by rw [HN.out]; exact hkt) (by have e := HN.out; subst e; exact kidAt_other hs1 hj HJ.out hp0) hh))
              clear hp0
              go_wp2
              go_quiet (fail)
              go_wp2
              rw [Exit.noGoto_ret]
              go_ret
              exact ⟨by rw [E.out]; rfl, below_drewN HB2.out _⟩
          · rw [hj2]
            have E := Lib.hid (hangsI_no (m := m) (fun hh => kids_no hlt (k := k) (by rw [HN.out]; exact hkt) (by have e := HN.out; subst e; exact kidAt_no hj1) hh))
            clear hj1 hj2
            go_wp2
            go_quiet (fail)
            go_wp2
            rw [Exit.noGoto_ret]
            go_ret
            exact ⟨by rw [E.out]; rfl, below_drewN HB2.out _⟩
        · have hkt' : decide ((k : Int) < n.kids.length) = false := decide_eq_false (by omega)
          have ht : n.kids.take k = n.kids := List.take_of_length_le (by omega)
          have HC2 := Lib.hid HC.out
          rw [ht] at HC2
          have HKN := Lib.hid (HK.out.next (fun _ => by have e := HN.out; subst e; exact HKT.out.all hkt))
          have hdl2 : (doneTo m (i + 1)).length ≤ (i + 1) * 4096 := by rw [doneTo_succ hlt, List.length_append, HN.out]; omega
          clear ht hb
          go_wp2
          go_roundg (m.nodes.length - (i + 1))
          case measure => omega
          case rel => exact ⟨i + 1, ml, by go_num, rfl, by omega, HB.out, HM.out, HE.out, by rw [doneTo_succ hlt, HN.out]; exact HC2.out, hdl2, HKN.out⟩
    · have hlt' : decide ((i : Int) < m.nodes.length) = false := decide_eq_false (by omega)
      have HKA := Lib.hid (HK.out.all hlt)
      have HCA := Lib.hid (show ∀ j (h : j < ml.length) (h' : j < m.nodes.length), ml[j] = cnt m.nodes m.nodes[j].id from fun j h h' => by rw [HC.out.at_ j h h', doneTo_all hlt])
      have HCL := Lib.hid HC.out.len
      clear HC HK hdl hil
      go_wp2_with fail
      clear m1 hlt hlt' hb
      obtain ⟨wp, rfl⟩ : ∃ wp : World, wp = wr := ⟨_, rfl⟩
      go_loopg [59] m.nodes.length (fun g s59 wx => ∃ i : Nat, s59 = .int .i64 i ∧ g = m.nodes.length - i ∧ i ≤ m.nodes.length ∧ Below w.heap.size w wx ∧ Blk wx w.heap.size 24 #[.int .i64 m.next, .slice A m.nodes.length c] ∧ MetI wx (w.heap.size + 1) ml ∧ MetTo m i)
      case atStart => exact ⟨0, rfl, rfl, Nat.zero_le _, HB.out, HM.out, HE.out, fun j _ hj => absurd hj (Nat.not_lt_zero _)⟩
      case round =>
        clear HB HM HE
        obtain ⟨i, rfl, rfl, hil, hb, hmb, hme, hMT⟩ := hrel
        have HB := Lib.hid hb; have HM := Lib.hid hmb; have HE := Lib.hid hme; have HMT := Lib.hid hMT
        have m1 := hmb.cell 1
        have hmlt := hmb.lt; have helt := Blk.lt hme
        have hsz := hb.size
        simp at m1
        by_cases hlt : i < m.nodes.length
        · have hlt' : (i : Int) < m.nodes.length := by omega
          have i0 : (0 : Int) ≤ i := by omega
          obtain ⟨b, off, Sp, cp, Sk, ck, Sr, cr, rfl, hbF, d0, d1, d2, d3, d4, d5, d6, _⟩ := node_at (RowOf.keep ENode.stays (Keep.below hb hF) (F' := F) (fun _ h => h) h) hlt
          have hjl : i < ml.length := by rw [HCL.out]; exact hlt
          have e3 := hme.cell hjl
          have hml := HCA.out i hjl hlt
          have hmm := List.getElem_mem hlt
          have HMM := Lib.hid hmm
          clear hmb hme hMT hb hmm
          cases hp0 : (m.nodes[i].parent == 0)
          · have hp1 : (m.nodes[i].parent != 0) = true := by simp only [bne, hp0]; rfl
            have HP1 := Lib.hid (beq_eq_false_iff_ne.1 hp0)
            cases hq : ((ml[i] : Int) != 1)
            · have HN := Lib.hid (HMT.out.next (fun _ => ⟨fun h => absurd h HP1.out, fun _ => by have := bne_eq_false_iff_eq.1 hq; omega⟩))
              clear hml
              go_wp2
              go_roundg (m.nodes.length - (i + 1))
              case measure => omega
              case rel => exact ⟨i + 1, by go_num, rfl, by omega, HB.out.alloc hsz _, HM.out.alloc _, Blk.alloc HE.out _, HN.out⟩
            · have E := Lib.hid (hangsI_no (m := m) (fun hh => by have := (hh.2.1 _ HMM.out).2 HP1.out; have := bne_iff_ne.1 hq; omega))
              clear hml
              go_wp2
              rw [Exit.noGoto_ret]
              go_ret
              exact ⟨by rw [E.out]; rfl, HB.out.alloc hsz _⟩
          · have hp1 : (m.nodes[i].parent != 0) = false := by simp only [bne, hp0]; rfl
            have HP1 := Lib.hid (beq_iff_eq.1 hp0)
            cases hq : ((ml[i] : Int) != 0)
            · have HN := Lib.hid (HMT.out.next (fun _ => ⟨fun _ => by have := bne_eq_false_iff_eq.1 hq; omega, fun h => absurd HP1.out h⟩))
              clear hml
              go_wp2
              go_roundg (m.nodes.length - (i + 1))
              case measure => omega
              case rel => exact ⟨i + 1, by go_num, rfl, by omega, HB.out.alloc hsz _, HM.out.alloc _, Blk.alloc HE.out _, HN.out⟩
            · have E := Lib.hid (hangsI_no (m := m) (fun hh => by have := (hh.2.1 _ HMM.out).1 HP1.out; have := bne_iff_ne.1 hq; omega))
              clear hml
              go_wp2
              rw [Exit.noGoto_ret]
              go_ret
              exact ⟨by rw [E.out]; rfl, HB.out.alloc hsz _⟩
        · have hlt' : decide ((i : Int) < m.nodes.length) = false := decide_eq_false (by omega)
          have HMA := Lib.hid (HMT.out.all hlt)
          clear hmb hme hMT
          go_wp2_with fail
          go_step3
          go_wp2_with fail
          clear m1 hlt hlt' hb HMT
          obtain ⟨wq, rfl⟩ : ∃ wq : World, wq = wr := ⟨_, rfl⟩
          go_loopg [90] m.nodes.length (fun g s90 wx => ∃ i : Nat, s90 = .int .i64 i ∧ g = m.nodes.length - i ∧ i ≤ m.nodes.length ∧ Below w.heap.size w wx ∧ Blk wx w.heap.size 24 #[.int .i64 m.next, .slice A m.nodes.length c] ∧ UpTo m i)
          case atStart => exact ⟨0, rfl, rfl, Nat.zero_le _, HB.out, HM.out, fun j _ hj => absurd hj (Nat.not_lt_zero _)⟩
          case round =>
            clear HB HM HE
            obtain ⟨i, rfl, rfl, hil, hb, hmb, hUT⟩ := hrel
            have HB := Lib.hid hb; have HM := Lib.hid hmb; have HUT := Lib.hid hUT
            have m1 := hmb.cell 1
            have hmlt := hmb.lt
            have hsz := hb.size
            simp at m1
            by_cases hlt : i < m.nodes.length
            · have hlt' : (i : Int) < m.nodes.length := by omega
              have i0 : (0 : Int) ≤ i := by omega
              obtain ⟨b, off, Sp, cp, Sk, ck, Sr, cr, rfl, hbF, d0, d1, d2, d3, d4, d5, d6, _⟩ := node_at (RowOf.keep ENode.stays (Keep.below hb hF) (F' := F) (fun _ h => h) h) hlt
              have hmm := List.getElem_mem hlt
              have HMM := Lib.hid hmm
              clear hmb hUT hb hmm
              go_wp2_with fail
              obtain ⟨wo, rfl⟩ : ∃ wo : World, wo = wr := ⟨_, rfl⟩
              go_loopg [13] 65 (fun g s13 wx => ∃ (d f : Nat) (x : ANode), s13 = .int .i64 d ∧ g = f + 1 ∧ d + f = 65 ∧ x ∈ m.nodes ∧ (Up m 64 m.nodes[i] ↔ Up m f x) ∧ Below w.heap.size w wx ∧ Blk wx w.heap.size 24 #[.int .i64 m.next, .slice (some ⟨b, off, none⟩) m.nodes.length c] ∧ NodeBlk wx wo.heap.size 37 F x)
              case atStart => exact ⟨1, 64, m.nodes[i], rfl, rfl, rfl, HMM.out, Iff.rfl, HB.out.alloc hsz _, HM.out.alloc _, _, _, _, _, _, _, Blk.new _ _ _⟩
              case round =>
                clear HB HM d0 d1 d2 d3 d4 d5 d6 m1
                obtain ⟨d, f, x, rfl, rfl, hdf, hx, hup, hb, hmb, Sp', cp', Sk', ck', Sr', cr', hxb⟩ := hrel
                have HB := Lib.hid hb; have HM := Lib.hid hmb; have HXB := Lib.hid hxb; have HU := Lib.hid hup; have HX := Lib.hid hx
                have hd1 : d ≤ 65 := by omega
                have HDF := Lib.hid hdf
                have m0 := hmb.cell 0; have m1 := hmb.cell 1; have x2 := hxb.cell 2
                have z0 := hxb.frozen 0; have z1 := hxb.frozen 1; have z2 := hxb.frozen 2; have z3 := hxb.frozen 3; have z4 := hxb.frozen 4; have z5 := hxb.frozen 5; have z6 := hxb.frozen 6
                have hmlt2 := hmb.lt; have hxlt := hxb.lt
                simp at m0 m1 x2
                clear hmb hxb hup hx hdf hb
                by_cases hf0 : f = 0
                · subst hf0
                  have hd2 : (64 : Int) < d := by have := HDF.out; omega
                  have E := Lib.hid (hangsI_no (m := m) (fun hh => HU.out.1 (hh.2.2 _ HMM.out)))
                  go_wp2
                  rw [Exit.noGoto_ret]
                  go_ret
                  exact ⟨by rw [E.out]; rfl, HB.out⟩
                · obtain ⟨f, rfl⟩ : ∃ f', f = f' + 1 := ⟨f - 1, by omega⟩
                  have hd2 : (d : Int) ≤ 64 := by have := HDF.out; omega
                  clear hf0
                  cases hp0 : (x.parent == 0)
                  · have HP1 := Lib.hid (beq_eq_false_iff_ne.1 hp0)
                    obtain ⟨j, hj, hj1⟩ := parent_there hs1 HKA.out HMA.out HX.out HP1.out
                    have hat := atI_some hs1 hj hj1
                    have HN := Lib.hid (up_next hs1 HU.out HP1.out hj hj1)
                    have HAT := Lib.hid hat
                    have HIR := Lib.hid (hr x HX.out).1
                    clear hj1 hat
                    go_wp2_with fail
                    obtain ⟨b2, off2, Sp2, cp2, Sk2, ck2, Sr2, cr2, e', hbF2, d0, d1, d2, d3, d4, d5, d6, _⟩ := node_at (RowOf.keep ENode.stays (Keep.below HB.out hF) (F' := F) (fun _ h => h) h) hj
                    injection e' with e'
                    injection e' with e1 e3
                    subst e1; subst e3
                    have j0 : (0 : Int) ≤ j := by omega
                    have j2 : (j : Int) < m.nodes.length := by omega
                    have y0 := HXB.out.cell 0; have y1 := HXB.out.cell 1; have y3 := HXB.out.cell 3; have y4 := HXB.out.cell 4; have y5 := HXB.out.cell 5; have y6 := HXB.out.cell 6
                    simp at y0 y1 y3 y4 y5 y6
                    have CP := Lib.hid (fun (d : Nat) (os : Array Obj) => Calls.regrown_of (w := wr) (d := d) (os := os) (by have := place_any _ c m.next x.parent m.nodes (Sort.grow (redrawn wr d) os) F (fun b hb' => Nat.lt_of_lt_of_le (hF b hb') (HB.out.trans ((below_regrown wr d os).mono HB.out.size)).size) (h.keep ENode.stays (Keep.below (HB.out.trans ((below_regrown wr d os).mono HB.out.size)) hF) (fun _ h => h)) hs HIR.out (by omega); rw [HAT.out] at this; exact this))
                    have k0 := cell_regrown m0; have k1 := cell_regrown m1; have k2 := cell_regrown x2
                    have l0 := cell_regrown d0; have l1 := cell_regrown d1; have l2 := cell_regrown d2; have l3 := cell_regrown d3; have l4 := cell_regrown d4; have l5 := cell_regrown d5; have l6 := cell_regrown d6
                    have q0 := cell_regrown y0; have q1 := cell_regrown y1; have q3 := cell_regrown y3; have q4 := cell_regrown y4; have q5 := cell_regrown y5; have q6 := cell_regrown y6
                    have f0 := frozen_regrown (a := ⟨wo.heap.size, 0, none⟩) hxlt z0; have f1 := frozen_regrown (a := ⟨wo.heap.size, 1, none⟩) hxlt z1; have f2 := frozen_regrown (a := ⟨wo.heap.size, 2, none⟩) hxlt z2; have f3 := frozen_regrown (a := ⟨wo.heap.size, 3, none⟩) hxlt z3; have f4 := frozen_regrown (a := ⟨wo.heap.size, 4, none⟩) hxlt z4; have f5 := frozen_regrown (a := ⟨wo.heap.size, 5, none⟩) hxlt z5; have f6 := frozen_regrown (a := ⟨wo.heap.size, 6, none⟩) hxlt z6
                    clear m0 m1 x2 d0 d1 d2 d3 d4 d5 d6 y0 y1 y3 y4 y5 y6 z0 z1 z2 z3 z4 z5 z6
                    refine wp_region_quiet_below_tail 8 (by kernel_rfl) (by kernel_rfl) ?_
                    simp only [List.take_succ_cons, List.take_zero, List.drop_succ_cons, List.drop_zero]
                    repeat (first | go_big_quiet_step (exact CP.out _ _) | quiet_step (exact CP.out _ _))
                    refine wpQuiet_nil ?_
                    intro _ hw'
                    obtain ⟨⟨dq, osq⟩, hw''⟩ := hw'
                    subst hw''
                    have HB2 := Lib.hid (HB.out.trans ((below_regrown wr dq osq).mono HB.out.size))
                    have HM2 := Lib.hid (HM.out.below (below_regrown wr dq osq) hmlt2)
                    have HX2 := Lib.hid (HXB.out.below (below_regrown wr dq osq) hxlt)
                    have hxlt2 := HX2.out.lt
                    go_wp2
                    go_roundg (f + 1)
                    case measure => omega
                    case rel => exact ⟨d + 1, f, m.nodes[j], by go_num, rfl, by have := HDF.out; omega, List.getElem_mem hj, HN.out, below_set7 HB2.out hsz, Blk.far7 HM2.out (by omega), _, _, _, _, _, _, HX2.out.store7⟩
                  · have HP1 := Lib.hid (beq_iff_eq.1 hp0)
                    have HN := Lib.hid (HUT.out.next (fun _ => HU.out.2 (.inl HP1.out)))
                    go_wp2_with fail
                    go_roundg (m.nodes.length - (i + 1))
                    case measure => omega
                    case rel => exact ⟨i + 1, by go_num, rfl, by omega, HB.out, HM.out, HN.out⟩
            · have hlt' : decide ((i : Int) < m.nodes.length) = false := decide_eq_false (by omega)
              have E := Lib.hid (hangsI_yes (m := m) ⟨HKA.out, HMA.out, HUT.out.all hlt⟩)
              clear hmb hUT hb
              go_wp2
              rw [Exit.noGoto_ret]
              go_ret
              exact ⟨by rw [E.out]; rfl, HB.out⟩
end Go.Proofs.YtpkapommekkbcaaDoor
