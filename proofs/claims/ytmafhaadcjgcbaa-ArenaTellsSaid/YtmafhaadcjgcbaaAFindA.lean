import Derived.Test.YtmafhaadcjgcbaaAOwn
namespace Go.Proofs.Ytmafhaadcjgcbaa
open Go Go.RowKit

/-- what Find answers: the node as a value of its own, or nothing -/
def FoundAs (w' : World) (F : Nat → Prop) (m : AModel) (id : Int) (v : Value) : Prop :=
  (∃ x ∈ m.nodes, HasN m id ∧ x.id = id ∧ ∃ vp vk vr, v = .tuple #[.agg #[.int .i64 x.id, .string x.concept, .int .i64 x.parent, .string x.role, vp, vk, vr], .bool true] ∧ IsRow 2 EProp w' F vp x.props ∧ IsRow 1 EInt w' F vk x.kids ∧ IsRow 2 ERef w' F vr x.refs ∧ FreeV w' vp ∧ FreeV w' vk ∧ FreeV w' vr) ∨
  (¬ HasN m id ∧ v = .tuple #[.agg #[.int .i64 0, .string ⟨#[]⟩, .int .i64 0, .string ⟨#[]⟩, .slice none 0 0, .slice none 0 0, .slice none 0 0], .bool false])

set_option maxRecDepth 100000 in
set_option maxHeartbeats 2000000 in
theorem findA_any (A : Option Addr) (c : Nat) (m : AModel) (w : World) (F : Nat → Prop) (hF : ∀ b, F b → b < w.heap.size) (h : RowOf 7 ENode w F A m.nodes) (hz : ∀ x ∈ m.nodes, NodeOK x) (hz' : ∀ x ∈ m.nodes, LensOK x) (hl : m.nodes.length ≤ 9223372036854775807) (id : Int) (hid : InR id) :
    Calls Try.prog 22 #[.agg #[.int .i64 m.next, .slice A m.nodes.length c], .int .i64 id] w fun e w' => (∃ v, e = .returned v ∧ FoundAs w' (fun b => w.heap.size ≤ b ∧ b < w'.heap.size) m id v) ∧ Below w.heap.size w w' := by
  have HBA := Lib.hid (((Below.refl w.heap.size w).alloc (Nat.le_refl _) (.cells #[.int .i64 m.next, .slice A m.nodes.length c] 24)).alloc (by simp) (.cells #[.int .i64 0, .string ⟨#[]⟩, .int .i64 0, .string ⟨#[]⟩, .slice none 0 0, .slice none 0 0, .slice none 0 0] 38))
  have HC := Lib.hid (check_any A c m _ F (fun b hb => Nat.lt_of_lt_of_le (hF b hb) HBA.out.size) (h.keep ENode.stays (Keep.below HBA.out hF) (fun _ h => h)) hz hl)
  have HH := Lib.hid h
  have HZ := Lib.hid hz
  have HZ' := Lib.hid hz'
  clear h hz hz'
  by_cases hc : CheckM m
  · have HC2 := Lib.hid (int_is (checkI_yes hc) HC.out)
    have HCM := Lib.hid hc
    have HS := Lib.hid hc.1.srtB
    have hl4 : m.nodes.length ≤ 4096 := hc.1.1.2.2
    clear hc HC
    go_enter Try.func22, Try.ntmps22
    go_wp2_with fail
    refine HC2.out.mono ?_
    rintro _ w2 ⟨rfl, hb2⟩
    have HB2 := Lib.hid (HBA.out.trans (hb2.mono HBA.out.size))
    have HM2 := Lib.hid (((Blk.new w 24 #[.int .i64 m.next, .slice A m.nodes.length c]).alloc (.cells #[.int .i64 0, .string ⟨#[]⟩, .int .i64 0, .string ⟨#[]⟩, .slice none 0 0, .slice none 0 0, .slice none 0 0] 38)).below hb2 (by simp; omega))
    have m1 := HM2.out.cell 1; have m0 := HM2.out.cell 0
    have hmlt := HM2.out.lt
    simp at m0 m1
    have HR2 := Lib.hid ((Blk.new' (w := w.alloc (.cells #[.int .i64 m.next, .slice A m.nodes.length c] 24)) (g := w.heap.size + 1) (t := 38) (cs := #[.int .i64 0, .string ⟨#[]⟩, .int .i64 0, .string ⟨#[]⟩, .slice none 0 0, .slice none 0 0, .slice none 0 0]) (by simp)).below hb2 (by simp))
    have hrlt := HR2.out.lt
    clear hb2 HC2 HBA
    rcases atI_cases m.nodes id with ⟨j, hj, hj1, hj2⟩ | ⟨hj1, hj2⟩
    · have HAT := Lib.hid hj2
      obtain ⟨x, hx⟩ : ∃ x, m.nodes[j] = x := ⟨_, rfl⟩
      have hxm : x ∈ m.nodes := by rw [← hx]; exact List.getElem_mem hj
      have hxi : x.id = id := by rw [← hx]; exact hj1
      subst hxi
      have HX := Lib.hid hxm
      clear hj1 hj2 hxm
      have g0 : decide ((0 : Int) ≤ (j : Int)) = true := decide_eq_true (by omega)
      go_wp2_with fail
      refine (place_any A c m.next x.id m.nodes w2 F (fun b hb => Nat.lt_of_lt_of_le (hF b hb) HB2.out.size) (HH.out.keep ENode.stays (Keep.below HB2.out hF) (fun _ h => h)) HS.out hid (by omega)).mono ?_
      rintro _ w3 ⟨rfl, hb3⟩
      rw [HAT.out]
      have HB3 := Lib.hid (HB2.out.trans (hb3.mono HB2.out.size))
      have HM3 := Lib.hid (HM2.out.below hb3 hmlt)
      have HR3 := Lib.hid (HR2.out.below hb3 hrlt)
      have m1 := HM3.out.cell 1; have m0 := HM3.out.cell 0
      have hmlt3 := HM3.out.lt
      have hrlt3 := HR3.out.lt
      simp at m0 m1
      clear hb3
      obtain ⟨b, off, Sp, cp, Sk, ck, Sr, cr, hA, hb, n0, n1, n2, n3, n4, n5, n6, hp, hk, hr⟩ := node_at (HH.out.keep ENode.stays (Keep.below HB3.out hF) (fun _ h => h)) hj
      rw [hx] at n0 n1 n2 n3 n4 n5 n6 hp hk hr
      subst hA
      have HP := Lib.hid hp; have HK := Lib.hid hk; have HRR := Lib.hid hr; have HBF := Lib.hid hb
      clear hp hk hr hx hb
      go_wp2_with fail
      refine (own_any x Sp Sk Sr cp ck cr w3 F (fun b hb => Nat.lt_of_lt_of_le (hF b hb) HB3.out.size) (HZ'.out x HX.out) HP.out.2.2 HK.out.2.2 HRR.out.2.2).mono ?_
      rintro _ w4 ⟨_, _, _, rfl, ⟨P1, c1, rfl, p1, p2, p3⟩, ⟨K1, e1, rfl, q1, q2, q3⟩, ⟨R1, d1, rfl, s1, s2, s3⟩, hb4, hf1, hf2, hf3, _, _⟩
      have HP4 := Lib.hid p3; have HK4 := Lib.hid q3; have HR4 := Lib.hid s3; have HF1 := Lib.hid hf1; have HF2 := Lib.hid hf2; have HF3 := Lib.hid hf3
      have HB4 := Lib.hid (HB3.out.trans (hb4.mono HB3.out.size))
      have HY4 := Lib.hid (HR3.out.below hb4 hrlt3)
      have HE := Lib.hid (show HasN m x.id from ⟨HCM.out, x, HX.out, rfl⟩)
      clear p3 q3 s3 hb4 hf1 hf2 hf3
      have t0 := HY4.out.frozen 0; have t1 := HY4.out.frozen 1; have t2 := HY4.out.frozen 2; have t3 := HY4.out.frozen 3; have t4 := HY4.out.frozen 4; have t5 := HY4.out.frozen 5; have t6 := HY4.out.frozen 6
      have r0 := HY4.out.cell 0; have r1 := HY4.out.cell 1; have r2 := HY4.out.cell 2; have r3 := HY4.out.cell 3; have r4 := HY4.out.cell 4; have r5 := HY4.out.cell 5; have r6 := HY4.out.cell 6
      simp at r0 r1 r2 r3 r4 r5 r6
      go_wp2_with fail
      have hyS := (((((((HY4.out.set_ 0 (.int .i64 x.id)).set_ 1 (.string x.concept)).set_ 2 (.int .i64 x.parent)).set_ 3 (.string x.role)).set_ 4 (.slice P1 x.props.length c1)).set_ 5 (.slice K1 x.kids.length e1)).set_ 6 (.slice R1 x.refs.length d1))
      have f0 := hyS.cell 0; have f1 := hyS.cell 1; have f2 := hyS.cell 2; have f3 := hyS.cell 3; have f4 := hyS.cell 4; have f5 := hyS.cell 5; have f6 := hyS.cell 6
      simp at f0 f1 f2 f3 f4 f5 f6
      have HBW := Lib.hid (((((((HB4.out.setCell (p := ⟨w.heap.size + 1, 0, none⟩) (Nat.le_succ _) (.int .i64 x.id)).setCell (p := ⟨w.heap.size + 1, 1, none⟩) (Nat.le_succ _) (.string x.concept)).setCell (p := ⟨w.heap.size + 1, 2, none⟩) (Nat.le_succ _) (.int .i64 x.parent)).setCell (p := ⟨w.heap.size + 1, 3, none⟩) (Nat.le_succ _) (.string x.role)).setCell (p := ⟨w.heap.size + 1, 4, none⟩) (Nat.le_succ _) (.slice P1 x.props.length c1)).setCell (p := ⟨w.heap.size + 1, 5, none⟩) (Nat.le_succ _) (.slice K1 x.kids.length e1)).setCell (p := ⟨w.heap.size + 1, 6, none⟩) (Nat.le_succ _) (.slice R1 x.refs.length d1))
      have hz3 := HB3.out.size
      refine bodyPost_ret (v := .tuple #[.agg #[.int .i64 x.id, .string x.concept, .int .i64 x.parent, .string x.role, .slice P1 x.props.length c1, .slice K1 x.kids.length e1, .slice R1 x.refs.length d1], .bool true]) (by simp [results, Try.results22, go_sem, f0, f1, f2, f3, f4, f5, f6]) rfl ⟨⟨_, rfl, Or.inl ⟨x, HX.out, HE.out, rfl, _, _, _, rfl, ⟨_, _, rfl, p1, p2, HP4.out.keep EProp.stays (fun q hq => ?_) (fun b hb => ?_)⟩, ⟨_, _, rfl, q1, q2, HK4.out.keep EInt.stays (fun q hq => ?_) (fun b hb => ?_)⟩, ⟨_, _, rfl, s1, s2, HR4.out.keep ERef.stays (fun q hq => ?_) (fun b hb => ?_)⟩, (((((((HF1.out.set_ _ _).set_ _ _).set_ _ _).set_ _ _).set_ _ _).set_ _ _).set_ _ _), (((((((HF2.out.set_ _ _).set_ _ _).set_ _ _).set_ _ _).set_ _ _).set_ _ _).set_ _ _), (((((((HF3.out.set_ _ _).set_ _ _).set_ _ _).set_ _ _).set_ _ _).set_ _ _).set_ _ _)⟩⟩, HBW.out⟩
      all_goals first
        | exact World.cell?_of_block ((Below.heap_setCell _ _ _ _ (by show q.block ≠ w.heap.size + 1; omega)).trans ((Below.heap_setCell _ _ _ _ (by show q.block ≠ w.heap.size + 1; omega)).trans ((Below.heap_setCell _ _ _ _ (by show q.block ≠ w.heap.size + 1; omega)).trans ((Below.heap_setCell _ _ _ _ (by show q.block ≠ w.heap.size + 1; omega)).trans ((Below.heap_setCell _ _ _ _ (by show q.block ≠ w.heap.size + 1; omega)).trans ((Below.heap_setCell _ _ _ _ (by show q.block ≠ w.heap.size + 1; omega)).trans (Below.heap_setCell _ _ _ _ (by show q.block ≠ w.heap.size + 1; omega))))))))
        | exact ⟨by omega, by simpa using hb.2⟩
    · have E := Lib.hid (none_has hj1)
      have HAT := Lib.hid hj2
      clear hj1 hj2
      go_wp2_with fail
      refine (place_any A c m.next id m.nodes w2 F (fun b hb => Nat.lt_of_lt_of_le (hF b hb) HB2.out.size) (HH.out.keep ENode.stays (Keep.below HB2.out hF) (fun _ h => h)) HS.out hid (by omega)).mono ?_
      rintro _ w3 ⟨rfl, hb3⟩
      rw [HAT.out]
      have HB3 := Lib.hid (HB2.out.trans (hb3.mono HB2.out.size))
      have HR3 := Lib.hid (HR2.out.below hb3 hrlt)
      have t0 := HR3.out.frozen 0; have t1 := HR3.out.frozen 1; have t2 := HR3.out.frozen 2; have t3 := HR3.out.frozen 3; have t4 := HR3.out.frozen 4; have t5 := HR3.out.frozen 5; have t6 := HR3.out.frozen 6
      have r0 := HR3.out.cell 0; have r1 := HR3.out.cell 1; have r2 := HR3.out.cell 2; have r3 := HR3.out.cell 3; have r4 := HR3.out.cell 4; have r5 := HR3.out.cell 5; have r6 := HR3.out.cell 6
      simp at r0 r1 r2 r3 r4 r5 r6
      clear hb3
      go_wp2_with fail
      have hyS := (((((((HR3.out.set_ 0 (.int .i64 0)).set_ 1 (.string ⟨#[]⟩)).set_ 2 (.int .i64 0)).set_ 3 (.string ⟨#[]⟩)).set_ 4 (.slice none 0 0)).set_ 5 (.slice none 0 0)).set_ 6 (.slice none 0 0))
      have f0 := hyS.cell 0; have f1 := hyS.cell 1; have f2 := hyS.cell 2; have f3 := hyS.cell 3; have f4 := hyS.cell 4; have f5 := hyS.cell 5; have f6 := hyS.cell 6
      simp at f0 f1 f2 f3 f4 f5 f6
      have HBW := Lib.hid (((((((HB3.out.setCell (p := ⟨w.heap.size + 1, 0, none⟩) (Nat.le_succ _) (.int .i64 0)).setCell (p := ⟨w.heap.size + 1, 1, none⟩) (Nat.le_succ _) (.string ⟨#[]⟩)).setCell (p := ⟨w.heap.size + 1, 2, none⟩) (Nat.le_succ _) (.int .i64 0)).setCell (p := ⟨w.heap.size + 1, 3, none⟩) (Nat.le_succ _) (.string ⟨#[]⟩)).setCell (p := ⟨w.heap.size + 1, 4, none⟩) (Nat.le_succ _) (.slice none 0 0)).setCell (p := ⟨w.heap.size + 1, 5, none⟩) (Nat.le_succ _) (.slice none 0 0)).setCell (p := ⟨w.heap.size + 1, 6, none⟩) (Nat.le_succ _) (.slice none 0 0))
      exact bodyPost_ret (v := .tuple #[.agg #[.int .i64 0, .string ⟨#[]⟩, .int .i64 0, .string ⟨#[]⟩, .slice none 0 0, .slice none 0 0, .slice none 0 0], .bool false]) (by simp [results, Try.results22, go_sem, f0, f1, f2, f3, f4, f5, f6]) rfl ⟨⟨_, rfl, Or.inr ⟨E.out, rfl⟩⟩, HBW.out⟩
  · have HC2 := Lib.hid (int_is (checkI_no hc) HC.out)
    have E := Lib.hid (show ¬ HasN m id from fun h => hc h.1)
    clear hc HC
    go_enter Try.func22, Try.ntmps22
    go_wp2_with fail
    refine HC2.out.mono ?_
    rintro _ w2 ⟨rfl, hb2⟩
    have HB2 := Lib.hid (HBA.out.trans (hb2.mono HBA.out.size))
    have HR2 := Lib.hid ((Blk.new' (w := w.alloc (.cells #[.int .i64 m.next, .slice A m.nodes.length c] 24)) (g := w.heap.size + 1) (t := 38) (cs := #[.int .i64 0, .string ⟨#[]⟩, .int .i64 0, .string ⟨#[]⟩, .slice none 0 0, .slice none 0 0, .slice none 0 0]) (by simp)).below hb2 (by simp))
    have t0 := HR2.out.frozen 0; have t1 := HR2.out.frozen 1; have t2 := HR2.out.frozen 2; have t3 := HR2.out.frozen 3; have t4 := HR2.out.frozen 4; have t5 := HR2.out.frozen 5; have t6 := HR2.out.frozen 6
    have r0 := HR2.out.cell 0; have r1 := HR2.out.cell 1; have r2 := HR2.out.cell 2; have r3 := HR2.out.cell 3; have r4 := HR2.out.cell 4; have r5 := HR2.out.cell 5; have r6 := HR2.out.cell 6
    simp at r0 r1 r2 r3 r4 r5 r6
    clear hb2
    go_wp2_with fail
    have hyS := (((((((HR2.out.set_ 0 (.int .i64 0)).set_ 1 (.string ⟨#[]⟩)).set_ 2 (.int .i64 0)).set_ 3 (.string ⟨#[]⟩)).set_ 4 (.slice none 0 0)).set_ 5 (.slice none 0 0)).set_ 6 (.slice none 0 0))
    have f0 := hyS.cell 0; have f1 := hyS.cell 1; have f2 := hyS.cell 2; have f3 := hyS.cell 3; have f4 := hyS.cell 4; have f5 := hyS.cell 5; have f6 := hyS.cell 6
    simp at f0 f1 f2 f3 f4 f5 f6
    have HBW := Lib.hid (((((((HB2.out.setCell (p := ⟨w.heap.size + 1, 0, none⟩) (Nat.le_succ _) (.int .i64 0)).setCell (p := ⟨w.heap.size + 1, 1, none⟩) (Nat.le_succ _) (.string ⟨#[]⟩)).setCell (p := ⟨w.heap.size + 1, 2, none⟩) (Nat.le_succ _) (.int .i64 0)).setCell (p := ⟨w.heap.size + 1, 3, none⟩) (Nat.le_succ _) (.string ⟨#[]⟩)).setCell (p := ⟨w.heap.size + 1, 4, none⟩) (Nat.le_succ _) (.slice none 0 0)).setCell (p := ⟨w.heap.size + 1, 5, none⟩) (Nat.le_succ _) (.slice none 0 0)).setCell (p := ⟨w.heap.size + 1, 6, none⟩) (Nat.le_succ _) (.slice none 0 0))
    exact bodyPost_ret (v := .tuple #[.agg #[.int .i64 0, .string ⟨#[]⟩, .int .i64 0, .string ⟨#[]⟩, .slice none 0 0, .slice none 0 0, .slice none 0 0], .bool false]) (by simp [results, Try.results22, go_sem, f0, f1, f2, f3, f4, f5, f6]) rfl ⟨⟨_, rfl, Or.inr ⟨E.out, rfl⟩⟩, HBW.out⟩
end Go.Proofs.Ytmafhaadcjgcbaa
