import Derived.Test.YtpkapommekkbcaaDoorALentI
import Derived.Lib.SliceRun
import Derived.Test.YtpkapommekkbcaaDoorMut
import Derived.Laws.CopyOwn
import Derived.Test.YtpkapommekkbcaaDoorATellsA
import Derived.Test.YtpkapommekkbcaaDoorQTail
set_option linter.unusedSimpArgs false
set_option linter.unusedVariables false
section
namespace Go.Proofs.YtpkapommekkbcaaDoor
open Go Go.RowKit

end Go.Proofs.YtpkapommekkbcaaDoor
end
section
namespace Go.Proofs.YtpkapommekkbcaaDoor
open Go Go.RowKit

/-- a slice whose block may be written -/
def FreeV (w : World) (v : Value) : Prop := ∀ a n c, v = .slice (some a) n c → ∀ i, w.frozen? ⟨a.block, i, none⟩ = false
theorem FreeV.own {w : World} {base : Nat} {e : TypeId} {size : Nat} {v : Value} {n : Nat} {xs : List Value} (h : w.ownsRow base e size v n xs) : FreeV w v := by
  intro a m c hv i
  rcases h.2 with ⟨e0, _⟩ | ⟨g, cap, cur, e0, _, hh, _⟩
  · rw [e0] at hv; cases hv
  · rw [e0] at hv
    injection hv with e1
    injection e1 with e1
    subst e1
    simp [World.frozen?, hh]
theorem FreeV.set_ {w : World} {v : Value} (h : FreeV w v) (p : Addr) (u : Value) : FreeV (w.setCell p u) v := fun a n c e i => by
  rw [World.frozen?_setCell]; exact h a n c e i
theorem FreeV.blk {w : World} {g : Nat} {t : TypeId} {cs : Array Value} {n c : Nat} (h : Blk w g t cs) : FreeV w (.slice (some ⟨g, 0, none⟩) n c) := by
  intro a m k e i
  injection e with e1
  injection e1 with e1
  subst e1
  exact h.frozen i
theorem FreeV.below {w w' : World} {v : Value} {B : Nat} (h : FreeV w v) (hb : Below B w w') (hv : ∀ b, v.ownBlock = some b → b < B) (hs : ∀ a n c, v = .slice (some a) n c → v.ownBlock = some a.block) : FreeV w' v := fun a n c e i => by
  rw [World.frozen?_of_block (w := w) (a := ⟨a.block, i, none⟩) (hb.block a.block (hv _ (hs a n c e)))]; exact h a n c e i
end Go.Proofs.YtpkapommekkbcaaDoor
end
section
namespace Go.Proofs.YtpkapommekkbcaaDoor
open Go Go.RowKit

end Go.Proofs.YtpkapommekkbcaaDoor
end
section
namespace Go.Proofs.YtpkapommekkbcaaDoor
open Go Go.RowKit

/-- what the document's Find answers: the node as it lies, or nothing -/
def FoundIn (w' : World) (F : Nat → Prop) (m : AModel) (id : Int) (v : Value) : Prop :=
  (∃ x ∈ m.nodes, HasN m id ∧ x.id = id ∧ ∃ vp vk vr, v = .tuple #[.agg #[.int .i64 x.id, .string x.concept, .int .i64 x.parent, .string x.role, vp, vk, vr], .bool true] ∧ IsRow 2 EProp w' F vp x.props ∧ IsRow 1 EInt w' F vk x.kids ∧ IsRow 2 ERef w' F vr x.refs) ∨
  (¬ HasN m id ∧ v = .tuple #[.agg #[.int .i64 0, .string ⟨#[]⟩, .int .i64 0, .string ⟨#[]⟩, .slice none 0 0, .slice none 0 0, .slice none 0 0], .bool false])

set_option maxRecDepth 100000 in
set_option maxHeartbeats 2000000 in
theorem findR_any (A : Option Addr) (c : Nat) (m : AModel) (w : World) (F : Nat → Prop) (hF : ∀ b, F b → b < w.heap.size) (h : RowOf 7 ENode w F A m.nodes) (hz : ∀ x ∈ m.nodes, NodeOK x) (hl : m.nodes.length ≤ 9223372036854775807) (id : Int) (hid : InR id) :
    Calls Tryd.prog 23 #[.agg #[.int .i64 m.next, .slice A m.nodes.length c], .int .i64 id] w fun e w' => (∃ v, e = .returned v ∧ FoundIn w' F m id v) ∧ Below w.heap.size w w' := by
  have HBA := Lib.hid (((Below.refl w.heap.size w).alloc (Nat.le_refl _) (.cells #[.int .i64 m.next, .slice A m.nodes.length c] 24)).alloc (by simp) (.cells #[.int .i64 0, .string ⟨#[]⟩, .int .i64 0, .string ⟨#[]⟩, .slice none 0 0, .slice none 0 0, .slice none 0 0] 37))
  have HC := Lib.hid (right_any A c m _ F (fun b hb => Nat.lt_of_lt_of_le (hF b hb) HBA.out.size) (h.keep ENode.stays (Keep.below HBA.out hF) (fun _ h => h)) (fun x hx => (hz x hx).1) hl)
  have HH := Lib.hid h
  have HZ := Lib.hid hz
  clear h hz
  by_cases hc : CheckM m
  · have HC2 := Lib.hid (res_is (rightM_is.1 hc) HC.out)
    have HCM := Lib.hid hc
    have HS := Lib.hid hc.1.srtB
    have hl4 : m.nodes.length ≤ 4096 := hc.1.1.2.2
    clear hc HC
    go_enter Tryd.func23, Tryd.ntmps23
    go_wp2_with fail
    refine HC2.out.mono ?_
    rintro _ w2 ⟨rfl, hb2⟩
    have HB2 := Lib.hid (HBA.out.trans (hb2.mono HBA.out.size))
    have HM2 := Lib.hid (((Blk.new w 24 #[.int .i64 m.next, .slice A m.nodes.length c]).alloc (.cells #[.int .i64 0, .string ⟨#[]⟩, .int .i64 0, .string ⟨#[]⟩, .slice none 0 0, .slice none 0 0, .slice none 0 0] 37)).below hb2 (by simp; omega))
    have m1 := HM2.out.cell 1; have m0 := HM2.out.cell 0
    have hmlt := HM2.out.lt
    simp at m0 m1
    have HR2 := Lib.hid ((Blk.new' (w := w.alloc (.cells #[.int .i64 m.next, .slice A m.nodes.length c] 24)) (g := w.heap.size + 1) (t := 37) (cs := #[.int .i64 0, .string ⟨#[]⟩, .int .i64 0, .string ⟨#[]⟩, .slice none 0 0, .slice none 0 0, .slice none 0 0]) (by simp)).below hb2 (by simp))
    have hrlt := HR2.out.lt
    clear hb2 HC2 HBA
    rcases atI_cases m.nodes id with ⟨j, hj, hj1, hj2⟩ | ⟨hj1, hj2⟩
    · have HAT := Lib.hid hj2
      obtain ⟨x, hx⟩ : ∃ x, m.nodes[j] = x := ⟨_, rfl⟩
      have hxm : x ∈ m.nodes := by rw [← hx]; exact List.getElem_mem hj
      have hxi : x.id = id := by rw [← hx]; exact hj1
      subst hxi
      have HX := Lib.hid hxm
      clear hj1 hj2 hxm
      have g0 : decide ((j : Int) < 0) = false := decide_eq_false (by omega)
      go_wp2_with fail
      refine (at_any A c m.next x.id m.nodes w2 F (fun b hb => Nat.lt_of_lt_of_le (hF b hb) HB2.out.size) (HH.out.keep ENode.stays (Keep.below HB2.out hF) (fun _ h => h)) HS.out.1 (by omega)).mono ?_
      rintro _ w3 ⟨rfl, hb3⟩
      rw [HAT.out]
      have HB3 := Lib.hid (HB2.out.trans (hb3.mono HB2.out.size))
      have HM3 := Lib.hid (HM2.out.below hb3 hmlt)
      have HR3 := Lib.hid (HR2.out.below hb3 hrlt)
      have m1 := HM3.out.cell 1; have m0 := HM3.out.cell 0
      have hmlt3 := HM3.out.lt
      have hrlt3 := HR3.out.lt
      simp at m0 m1
      clear hb3
      obtain ⟨b, off, Sp, cp, Sk, ck, Sr, cr, hA, hb, n0, n1, n2, n3, n4, n5, n6, hp, hk, hr⟩ := node_at (HH.out.keep ENode.stays (Keep.below HB3.out hF) (fun _ h => h)) hj
      rw [hx] at n0 n1 n2 n3 n4 n5 n6 hp hk hr
      subst hA
      have HP := Lib.hid hp; have HK := Lib.hid hk; have HRR := Lib.hid hr; have HBF := Lib.hid hb
      clear hp hk hr hx hb
      have CP := Lib.hid (fun (d : Nat) (os : Array Obj) => Calls.regrown_of (w := w3) (d := d) (os := os) (by
        have := at_any (some ⟨b, off, none⟩) c m.next x.id m.nodes (Sort.grow (redrawn w3 d) os) F (fun b hb' => Nat.lt_of_lt_of_le (hF b hb') (HB3.out.trans ((below_regrown w3 d os).mono HB3.out.size)).size) (RowOf.keep ENode.stays (Keep.below (HB3.out.trans ((below_regrown w3 d os).mono HB3.out.size)) hF) (F' := F) (fun _ h => h) HH.out) HS.out.1 (by omega)
        rw [HAT.out] at this; exact this))
      have k0 := cell_regrown m0; have k1 := cell_regrown m1
      have l0 := cell_regrown n0; have l1 := cell_regrown n1; have l2 := cell_regrown n2; have l3 := cell_regrown n3; have l4 := cell_regrown n4; have l5 := cell_regrown n5; have l6 := cell_regrown n6
      have hj0 : (0 : Int) ≤ j := by omega
      have hj1 : (j : Int) < m.nodes.length := by omega
      go_wp2_with fail
      clear m0 m1 n0 n1 n2 n3 n4 n5 n6
      refine wp_region_quiet_below_tail 7 (by kernel_rfl) (by kernel_rfl) ?_
      simp only [List.take_succ_cons, List.take_zero, List.drop_succ_cons, List.drop_zero]
      repeat (first | go_big_quiet_step (exact CP.out _ _) | quiet_step (exact CP.out _ _))
      refine wpQuiet_nil ?_
      intro _ hw'
      obtain ⟨⟨dq, osq⟩, hw''⟩ := hw'
      subst hw''
      have HBQ := Lib.hid (below_regrown w3 dq osq)
      have HRW := Lib.hid (HR3.out.below HBQ.out hrlt3)
      have HBV := Lib.hid (HB3.out.trans (HBQ.out.mono HB3.out.size))
      clear k0 k1 l0 l1 l2 l3 l4 l5 l6 CP
      obtain ⟨w4, hw4⟩ : ∃ w4 : World, Sort.grow (redrawn w3 dq) osq = w4 := ⟨_, rfl⟩
      rw [hw4] at HBQ HRW HBV ⊢
      clear hw4
      have HP4 := Lib.hid (HP.out.2.2.keep EProp.stays (Keep.below HBQ.out (fun b hb => Nat.lt_of_lt_of_le (hF b hb) HB3.out.size)) (F' := F) (fun _ h => h)); have HK4 := Lib.hid (HK.out.2.2.keep EInt.stays (Keep.below HBQ.out (fun b hb => Nat.lt_of_lt_of_le (hF b hb) HB3.out.size)) (F' := F) (fun _ h => h)); have HR4 := Lib.hid (HRR.out.2.2.keep ERef.stays (Keep.below HBQ.out (fun b hb => Nat.lt_of_lt_of_le (hF b hb) HB3.out.size)) (F' := F) (fun _ h => h))
      have HE := Lib.hid (show HasN m x.id from ⟨HCM.out, x, HX.out, rfl⟩)
      have t0 := HRW.out.frozen 0; have t1 := HRW.out.frozen 1; have t2 := HRW.out.frozen 2; have t3 := HRW.out.frozen 3; have t4 := HRW.out.frozen 4; have t5 := HRW.out.frozen 5; have t6 := HRW.out.frozen 6
      have r0 := HRW.out.cell 0; have r1 := HRW.out.cell 1; have r2 := HRW.out.cell 2; have r3 := HRW.out.cell 3; have r4 := HRW.out.cell 4; have r5 := HRW.out.cell 5; have r6 := HRW.out.cell 6
      simp at r0 r1 r2 r3 r4 r5 r6
      go_wp2_with fail
      have hyS := (((((((HRW.out.set_ 0 (.int .i64 x.id)).set_ 1 (.string x.concept)).set_ 2 (.int .i64 x.parent)).set_ 3 (.string x.role)).set_ 4 (.slice Sp x.props.length cp)).set_ 5 (.slice Sk x.kids.length ck)).set_ 6 (.slice Sr x.refs.length cr))
      have f0 := hyS.cell 0; have f1 := hyS.cell 1; have f2 := hyS.cell 2; have f3 := hyS.cell 3; have f4 := hyS.cell 4; have f5 := hyS.cell 5; have f6 := hyS.cell 6
      simp at f0 f1 f2 f3 f4 f5 f6
      have HBW := Lib.hid (((((((HBV.out.setCell (p := ⟨w.heap.size + 1, 0, none⟩) (Nat.le_succ _) (.int .i64 x.id)).setCell (p := ⟨w.heap.size + 1, 1, none⟩) (Nat.le_succ _) (.string x.concept)).setCell (p := ⟨w.heap.size + 1, 2, none⟩) (Nat.le_succ _) (.int .i64 x.parent)).setCell (p := ⟨w.heap.size + 1, 3, none⟩) (Nat.le_succ _) (.string x.role)).setCell (p := ⟨w.heap.size + 1, 4, none⟩) (Nat.le_succ _) (.slice Sp x.props.length cp)).setCell (p := ⟨w.heap.size + 1, 5, none⟩) (Nat.le_succ _) (.slice Sk x.kids.length ck)).setCell (p := ⟨w.heap.size + 1, 6, none⟩) (Nat.le_succ _) (.slice Sr x.refs.length cr))
      refine bodyPost_ret (v := .tuple #[.agg #[.int .i64 x.id, .string x.concept, .int .i64 x.parent, .string x.role, .slice Sp x.props.length cp, .slice Sk x.kids.length ck, .slice Sr x.refs.length cr], .bool true]) (by simp [results, Tryd.results23, go_sem, f0, f1, f2, f3, f4, f5, f6]) rfl ⟨⟨_, rfl, Or.inl ⟨x, HX.out, HE.out, rfl, _, _, _, rfl, ⟨_, _, rfl, HP.out.1, HP.out.2.1, HP4.out.keep EProp.stays (fun q hq => ?_) (fun _ h => h)⟩, ⟨_, _, rfl, HK.out.1, HK.out.2.1, HK4.out.keep EInt.stays (fun q hq => ?_) (fun _ h => h)⟩, ⟨_, _, rfl, HRR.out.1, HRR.out.2.1, HR4.out.keep ERef.stays (fun q hq => ?_) (fun _ h => h)⟩⟩⟩, HBW.out⟩
      all_goals exact World.cell?_of_block ((Below.heap_setCell _ _ _ _ (by show q.block ≠ w.heap.size + 1; have := hF _ hq; omega)).trans ((Below.heap_setCell _ _ _ _ (by show q.block ≠ w.heap.size + 1; have := hF _ hq; omega)).trans ((Below.heap_setCell _ _ _ _ (by show q.block ≠ w.heap.size + 1; have := hF _ hq; omega)).trans ((Below.heap_setCell _ _ _ _ (by show q.block ≠ w.heap.size + 1; have := hF _ hq; omega)).trans ((Below.heap_setCell _ _ _ _ (by show q.block ≠ w.heap.size + 1; have := hF _ hq; omega)).trans ((Below.heap_setCell _ _ _ _ (by show q.block ≠ w.heap.size + 1; have := hF _ hq; omega)).trans (Below.heap_setCell _ _ _ _ (by show q.block ≠ w.heap.size + 1; have := hF _ hq; omega))))))))
    · have E := Lib.hid (none_has hj1)
      have HAT := Lib.hid hj2
      clear hj1 hj2
      go_wp2_with fail
      refine (at_any A c m.next id m.nodes w2 F (fun b hb => Nat.lt_of_lt_of_le (hF b hb) HB2.out.size) (HH.out.keep ENode.stays (Keep.below HB2.out hF) (fun _ h => h)) HS.out.1 (by omega)).mono ?_
      rintro _ w3 ⟨rfl, hb3⟩
      rw [HAT.out]
      have HB3 := Lib.hid (HB2.out.trans (hb3.mono HB2.out.size))
      have HR3 := Lib.hid (HR2.out.below hb3 hrlt)
      have t0 := HR3.out.frozen 0; have t1 := HR3.out.frozen 1; have t2 := HR3.out.frozen 2; have t3 := HR3.out.frozen 3; have t4 := HR3.out.frozen 4; have t5 := HR3.out.frozen 5; have t6 := HR3.out.frozen 6
      have r0 := HR3.out.cell 0; have r1 := HR3.out.cell 1; have r2 := HR3.out.cell 2; have r3 := HR3.out.cell 3; have r4 := HR3.out.cell 4; have r5 := HR3.out.cell 5; have r6 := HR3.out.cell 6
      simp at r0 r1 r2 r3 r4 r5 r6
      clear hb3
      go_wp2_with fail
      have hyS := (((((((HR3.out.set_ 0 (.int .i64 0)).set_ 1 (.string ⟨#[]⟩)).set_ 2 (.int .i64 0)).set_ 3 (.string ⟨#[]⟩)).set_ 4 (.slice none 0 0)).set_ 5 (.slice none 0 0)).set_ 6 (.slice none 0 0))
      have f0 := hyS.cell 0; have f1 := hyS.cell 1; have f2 := hyS.cell 2; have f3 := hyS.cell 3; have f4 := hyS.cell 4; have f5 := hyS.cell 5; have f6 := hyS.cell 6
      simp at f0 f1 f2 f3 f4 f5 f6
      have HBW := Lib.hid (((((((HB3.out.setCell (p := ⟨w.heap.size + 1, 0, none⟩) (Nat.le_succ _) (.int .i64 0)).setCell (p := ⟨w.heap.size + 1, 1, none⟩) (Nat.le_succ _) (.string ⟨#[]⟩)).setCell (p := ⟨w.heap.size + 1, 2, none⟩) (Nat.le_succ _) (.int .i64 0)).setCell (p := ⟨w.heap.size + 1, 3, none⟩) (Nat.le_succ _) (.string ⟨#[]⟩)).setCell (p := ⟨w.heap.size + 1, 4, none⟩) (Nat.le_succ _) (.slice none 0 0)).setCell (p := ⟨w.heap.size + 1, 5, none⟩) (Nat.le_succ _) (.slice none 0 0)).setCell (p := ⟨w.heap.size + 1, 6, none⟩) (Nat.le_succ _) (.slice none 0 0))
      exact bodyPost_ret (v := .tuple #[.agg #[.int .i64 0, .string ⟨#[]⟩, .int .i64 0, .string ⟨#[]⟩, .slice none 0 0, .slice none 0 0, .slice none 0 0], .bool false]) (by simp [results, Tryd.results23, go_sem, f0, f1, f2, f3, f4, f5, f6]) rfl ⟨⟨_, rfl, Or.inr ⟨E.out, rfl⟩⟩, HBW.out⟩
  · have HC2 := Lib.hid (res_is (rightM_is.2 hc) HC.out)
    have E := Lib.hid (show ¬ HasN m id from fun h => hc h.1)
    clear hc HC
    go_enter Tryd.func23, Tryd.ntmps23
    go_wp2_with fail
    refine HC2.out.mono ?_
    rintro _ w2 ⟨rfl, hb2⟩
    have HB2 := Lib.hid (HBA.out.trans (hb2.mono HBA.out.size))
    have HR2 := Lib.hid ((Blk.new' (w := w.alloc (.cells #[.int .i64 m.next, .slice A m.nodes.length c] 24)) (g := w.heap.size + 1) (t := 37) (cs := #[.int .i64 0, .string ⟨#[]⟩, .int .i64 0, .string ⟨#[]⟩, .slice none 0 0, .slice none 0 0, .slice none 0 0]) (by simp)).below hb2 (by simp))
    have t0 := HR2.out.frozen 0; have t1 := HR2.out.frozen 1; have t2 := HR2.out.frozen 2; have t3 := HR2.out.frozen 3; have t4 := HR2.out.frozen 4; have t5 := HR2.out.frozen 5; have t6 := HR2.out.frozen 6
    have r0 := HR2.out.cell 0; have r1 := HR2.out.cell 1; have r2 := HR2.out.cell 2; have r3 := HR2.out.cell 3; have r4 := HR2.out.cell 4; have r5 := HR2.out.cell 5; have r6 := HR2.out.cell 6
    simp at r0 r1 r2 r3 r4 r5 r6
    clear hb2
    go_wp2_with fail
    have hyS := (((((((HR2.out.set_ 0 (.int .i64 0)).set_ 1 (.string ⟨#[]⟩)).set_ 2 (.int .i64 0)).set_ 3 (.string ⟨#[]⟩)).set_ 4 (.slice none 0 0)).set_ 5 (.slice none 0 0)).set_ 6 (.slice none 0 0))
    have f0 := hyS.cell 0; have f1 := hyS.cell 1; have f2 := hyS.cell 2; have f3 := hyS.cell 3; have f4 := hyS.cell 4; have f5 := hyS.cell 5; have f6 := hyS.cell 6
    simp at f0 f1 f2 f3 f4 f5 f6
    have HBW := Lib.hid (((((((HB2.out.setCell (p := ⟨w.heap.size + 1, 0, none⟩) (Nat.le_succ _) (.int .i64 0)).setCell (p := ⟨w.heap.size + 1, 1, none⟩) (Nat.le_succ _) (.string ⟨#[]⟩)).setCell (p := ⟨w.heap.size + 1, 2, none⟩) (Nat.le_succ _) (.int .i64 0)).setCell (p := ⟨w.heap.size + 1, 3, none⟩) (Nat.le_succ _) (.string ⟨#[]⟩)).setCell (p := ⟨w.heap.size + 1, 4, none⟩) (Nat.le_succ _) (.slice none 0 0)).setCell (p := ⟨w.heap.size + 1, 5, none⟩) (Nat.le_succ _) (.slice none 0 0)).setCell (p := ⟨w.heap.size + 1, 6, none⟩) (Nat.le_succ _) (.slice none 0 0))
    exact bodyPost_ret (v := .tuple #[.agg #[.int .i64 0, .string ⟨#[]⟩, .int .i64 0, .string ⟨#[]⟩, .slice none 0 0, .slice none 0 0, .slice none 0 0], .bool false]) (by simp [results, Tryd.results23, go_sem, f0, f1, f2, f3, f4, f5, f6]) rfl ⟨⟨_, rfl, Or.inr ⟨E.out, rfl⟩⟩, HBW.out⟩
end Go.Proofs.YtpkapommekkbcaaDoor
end
