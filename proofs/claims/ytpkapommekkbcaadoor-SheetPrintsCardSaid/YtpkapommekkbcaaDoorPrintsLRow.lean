import Derived.Test.YtpkapommekkbcaaDoorSheetS
import Derived.Test.YtpkapommekkbcaaDoorSheetRP
import Derived.Test.YtpkapommekkbcaaDoorSheetG
import Derived.Test.YtpkapommekkbcaaDoorTwinR
import Derived.Test.YtpkapommekkbcaaDoorASameRef
import Derived.Test.YtpkapommekkbcaaDoorRows
import Derived.Test.YtpkapommekkbcaaDoorCards
import Derived.Test.YtpkapommekkbcaaDoorTie
import Derived.Test.YtpkapommekkbcaaDoorADataA
import Derived.HandedShaped
import Derived.ProofKit
import Derived.LaidMore
import Derived.OpenShut
import Derived.ChangeMaps5
import Derived.Stop.Joined
import Derived.Stop.LaidErr
import Derived.SevenTiedAt
set_option linter.unusedSimpArgs false
set_option linter.unusedVariables false
section
/- the law SheetPrints: both texts, and the model that stays -/
namespace Go.Proofs.YtpkapommekkbcaaDoor
open Go Go.RowKit

theorem PrintRes.shape {m : AModel} {v : Value} (h : PrintRes m v) : ∃ s z, v = .tuple #[.string s, .int .i64 z] := by
  rcases h with ⟨_, e⟩ | ⟨_, _, e⟩ | ⟨_, _, e⟩ <;> exact ⟨_, _, e⟩
theorem PrintRes.same {m : AModel} {s s' : ByteArray} {z z' : Int} (h : PrintRes m (.tuple #[.string s, .int .i64 z])) (h' : PrintRes m (.tuple #[.string s', .int .i64 z'])) : s = s' ∧ z = z' := by
  have e := h.uniq h'
  simp only [Value.tuple.injEq, Array.mk.injEq, List.cons.injEq, Value.string.injEq, Value.int.injEq, true_and, and_true] at e
  exact e
open Classical in
theorem eqB_refl {α : Type} (x : α) : eqB x x = true := decide_eq_true rfl
theorem tab_on {B : Nat} {w V : World} (h : Lib.TabBelow Tryd.prog B w "internal/strconv.uint64pow10" .u64 Lib.pow10Tab) (hb : Below B w V) : Lib.TabBelow Tryd.prog V.heap.size V "internal/strconv.uint64pow10" .u64 Lib.pow10Tab :=
  Lib.tabBelow_of_tabIs (h.on hb).here

set_option maxRecDepth 100000 in
set_option maxHeartbeats 4000000 in
theorem prints_any (v : Value) (m : AModel) (w : World) (h : IsModel w (fun b => b < w.heap.size) v m) (hz : ∀ x ∈ m.nodes, NodeOK x ∧ LensOK x) (ht : Lib.TabIs Tryd.prog w "internal/strconv.uint64pow10" .u64 Lib.pow10Tab) :
    Calls Tryd.prog 3 #[v] w fun e w' => e = .returned (.bool true) ∧ Below w.heap.size w w' := by
  obtain ⟨_, rfl, A, c, rfl, ca1, ca2, ra⟩ := h
  unfold maxLen at ca2
  have HRW : Hid (∀ V, Below w.heap.size w V → RowOf 7 ENode V (fun b => b < w.heap.size) A m.nodes) := Lib.hid (fun V hb => ra.keep ENode.stays (Keep.below hb (fun _ h => h)) (fun _ h => h))
  have HFV : Hid (∀ V, Below w.heap.size w V → ∀ b, b < w.heap.size → b < V.heap.size) := Lib.hid (fun V hb b hx => Nat.lt_of_lt_of_le hx hb.size)
  have HT := Lib.hid (Lib.tabBelow_of_tabIs ht)
  have HZ := Lib.hid hz
  obtain ⟨u0, hu0⟩ : ∃ u : World, w.alloc (.cells #[.int .i64 m.next, .slice A m.nodes.length c] 24) = u := ⟨_, rfl⟩
  have HB0 : Hid (Below w.heap.size w u0) := Lib.hid (by rw [← hu0]; exact (Below.refl _ _).alloc (Nat.le_refl _) _)
  have HM0 : Hid (Blk u0 w.heap.size 24 #[.int .i64 m.next, .slice A m.nodes.length c]) := Lib.hid (by rw [← hu0]; exact Blk.new _ _ _)
  have HU0 := Lib.hid hu0
  have HGR := Lib.hid (great_any A c m u0 (fun b => b < w.heap.size) (HFV.out _ HB0.out) (HRW.out _ HB0.out) (fun x hx => (hz x hx).2) (by omega))
  have m0 := HM0.out.cell 0; have m1 := HM0.out.cell 1; have mlt := HM0.out.lt
  simp at m0 m1
  clear ra ht hz hu0
  cases hg : greatM m
  case true =>
    rw [hg] at HGR
    clear hg
    go_enter Tryd.func3, Tryd.ntmps3
    go_upto_region 1 with fail
    rw [HU0.out]
    go_wp2_with fail
    refine HGR.out.mono ?_
    rintro _ w2 ⟨rfl, hb⟩
    have HB2 := Lib.hid (HB0.out.trans (hb.mono HB0.out.size))
    clear hb m0 m1 mlt
    go_wp2
    go_ret
    exact ⟨rfl, HB2.out⟩
  case false =>
    obtain ⟨hfn, hfp⟩ := great_few hg
    have HFP := Lib.hid hfp
    rw [hg] at HGR
    clear hg hfp
    go_enter Tryd.func3, Tryd.ntmps3
    go_upto_region 1 with fail
    rw [HU0.out]
    go_wp2_with fail
    refine HGR.out.mono ?_
    rintro _ w2 ⟨rfl, hb⟩
    have HB2 := Lib.hid (HB0.out.trans (hb.mono HB0.out.size))
    have HM2 := Lib.hid (HM0.out.below hb mlt)
    clear hb m0 m1 mlt HGR HB0 HM0 HU0
    have m0 := HM2.out.cell 0; have m1 := HM2.out.cell 1; have mlt := HM2.out.lt
    simp at m0 m1
    have HTW := Lib.hid (twinR_any A c m w2 (fun b => b < w.heap.size) (HFV.out _ HB2.out) (HRW.out _ HB2.out) (fun x hx => (HZ.out x hx).2) (by omega))
    go_wp2_with fail
    refine HTW.out.mono ?_
    rintro _ w3 ⟨vt, rfl, l, hown, hlm, hb⟩
    have hrt := hown.isRow (F := fun b => b < w3.heap.size) (fun b _ h => h)
    rw [hlm] at hrt
    obtain ⟨At, ct, rfl, ct1, ct2, rt⟩ := hrt
    have HB3 := Lib.hid (HB2.out.trans (hb.mono HB2.out.size))
    have HM3 := Lib.hid (HM2.out.below hb mlt)
    have HRT : Hid (∀ V, Below w3.heap.size w3 V → RowOf 7 ENode V (fun b => b < w3.heap.size) At m.nodes) := Lib.hid (fun V hb => rt.keep ENode.stays (Keep.below hb (fun _ h => h)) (fun _ h => h))
    have HFT : Hid (∀ V, Below w3.heap.size w3 V → ∀ b, b < w3.heap.size → b < V.heap.size) := Lib.hid (fun V hb b hx => Nat.lt_of_lt_of_le hx hb.size)
    obtain ⟨p3, hp3⟩ : ∃ z, w3.heap.size = z := ⟨_, rfl⟩
    obtain ⟨w4, hw4⟩ : ∃ u : World, w3.alloc (.cells #[.int .i64 m.next, .slice At m.nodes.length ct] 24) = u := ⟨_, rfl⟩
    have HB34 : Hid (Below w3.heap.size w3 w4) := Lib.hid (by rw [← hw4]; exact (Below.refl _ _).alloc (Nat.le_refl _) _)
    have HB4 := Lib.hid (HB3.out.trans (HB34.out.mono HB3.out.size))
    have HM4 := Lib.hid (HM3.out.below HB34.out HM3.out.lt)
    have HO4 : Hid (Blk w4 p3 24 #[.int .i64 m.next, .slice At m.nodes.length ct]) := Lib.hid (by rw [← hw4]; exact Blk.new' hp3.symm)
    have HP3 := Lib.hid hp3; have HW4 := Lib.hid hw4
    clear hb hown hlm rt hp3 hw4 m0 m1 mlt HTW HM2 HB2
    have m0 := HM4.out.cell 0; have m1 := HM4.out.cell 1; have mlt := HM4.out.lt
    have o0 := HO4.out.cell 0; have o1 := HO4.out.cell 1; have olt := HO4.out.lt
    simp at m0 m1 o0 o1
    go_upto_region 4 with fail
    (try rw [HW4.out])
    (try rw [HP3.out])
    (try rw [HW4.out])
    clear HW4
    have HPR := Lib.hid (sprint_any At ct m w4 (fun b => b < w3.heap.size) (HFT.out _ HB34.out) (HRT.out _ HB34.out) (fun x hx => (HZ.out x hx).1) (by omega) HFP.out (tab_on HT.out HB4.out))
    go_wp2_with fail
    refine HPR.out.mono ?_
    rintro _ w5 ⟨v1, rfl, hr1, hb⟩
    obtain ⟨s1, z1, rfl⟩ := hr1.shape
    have HR1 := Lib.hid hr1
    have HB35 := Lib.hid (HB34.out.trans (hb.mono HB34.out.size))
    have HB5 := Lib.hid (HB4.out.trans (hb.mono HB4.out.size))
    have HM5 := Lib.hid (HM4.out.below hb mlt)
    have HO5 := Lib.hid (HO4.out.below hb olt)
    clear hb hr1 m0 m1 mlt o0 o1 olt HPR HM4 HO4 HB4 HB34
    have m0 := HM5.out.cell 0; have m1 := HM5.out.cell 1; have mlt := HM5.out.lt
    simp at m0 m1
    have HRR := Lib.hid (rprintM_any A c m w5 (fun b => b < w.heap.size) (HFV.out _ HB5.out) (HRW.out _ HB5.out) (fun x hx => (HZ.out x hx).1) (by omega) HFP.out)
    go_wp2_with fail
    refine HRR.out.mono ?_
    rintro _ w6 ⟨v2, rfl, hr2, hb⟩
    obtain ⟨s2, z2, rfl⟩ := hr2.shape
    obtain ⟨rfl, rfl⟩ := HR1.out.same hr2
    have HB36 := Lib.hid (HB35.out.trans (hb.mono HB35.out.size))
    have HB6 := Lib.hid (HB5.out.trans (hb.mono HB5.out.size))
    have HM6 := Lib.hid (HM5.out.below hb mlt)
    have HO6 := Lib.hid (HO5.out.below hb HO5.out.lt)
    clear hb hr2 m0 m1 mlt HRR HM5 HO5 HB5 HB35 HR1
    have m0 := HM6.out.cell 0; have m1 := HM6.out.cell 1; have mlt := HM6.out.lt
    have o0 := HO6.out.cell 0; have o1 := HO6.out.cell 1; have olt := HO6.out.lt
    simp at m0 m1 o0 o1
    have HSM := Lib.hid (same_any At A ct c m m w6 (fun b => b < w3.heap.size) (fun b => b < w.heap.size) (HFT.out _ HB36.out) (HFV.out _ HB6.out) (HRT.out _ HB36.out) (HRW.out _ HB6.out) (by omega))
    rw [eqB_refl] at HSM
    go_wp2_with fail
    refine HSM.out.mono ?_
    rintro _ w7 ⟨rfl, hb⟩
    have HB7 := Lib.hid (HB6.out.trans (hb.mono HB6.out.size))
    clear hb m0 m1 mlt o0 o1 olt
    go_wp2
    go_ret
    exact ⟨rfl, HB7.out⟩
end Go.Proofs.YtpkapommekkbcaaDoor
end
section
/- PROVED: SheetPrints answers true for every input, and its arguments read afterwards as they read before. No condition but that the listed variables of the library read as the program's text lays them, which the card ties. -/
namespace Go.Proofs.YtpkapommekkbcaaDoor
open Go.ChangeShapes Go.WideShapes Go.ChangeAt Go.RowKit Go.Deep

theorem Tryd.own : ownKnob Tryd.prog.godebug = none := by kernel_rfl
theorem Tryd.laidOut : laidOutB Tryd.prog = true := by kernel_rfl
theorem pow10_data : (Rows.laid_internal_strconv_uint64pow10 : DataW Unit) = Lib.tabData .u64 Lib.pow10Tab := by kernel_rfl
theorem gPow : Tryd.prog.globalNamed "internal/strconv.uint64pow10" = some 1 := by kernel_rfl
theorem gPowType : (Tryd.prog.globals[1]?).map (·.type) = some 107 := by kernel_rfl
def laid3 : List (String × DataW Unit) := [("math/bits.deBruijn32tab", Rows.laid_math_bits_deBruijn32tab), ("math/bits.deBruijn64tab", Rows.laid_math_bits_deBruijn64tab), ("internal/strconv.uint64pow10", Rows.laid_internal_strconv_uint64pow10)]
/-- what the condition gives the walks -/
theorem tab_of_laid {W : World} (h : laidMetH Tryd.prog laid3 W) : Lib.TabIs Tryd.prog W "internal/strconv.uint64pow10" .u64 Lib.pow10Tab := by
  rw [MakeChecks.laidMetH_plain _ _ _ (by kernel_rfl)] at h
  have h3 := (laidMet.tail (laidMet.tail h))
  rw [pow10_data] at h3
  exact Lib.tabIs_of_head gPow gPowType Tryd.underlying107 Tryd.underlying88 (by kernel_rfl) (by kernel_rfl) h3
/-- the door's own heap meets the condition -/
theorem door_met (os : Os) (args : Array Value) : laidMetH Tryd.prog laid3 ((World.doorLaid Tryd.prog 400 os).forCall (fun _ _ => 0) ⟨#[], args, []⟩).memory :=
  laidMetH_of_parts3 (fuel := 8) (laidMet_of_run' 8 (by kernel_rfl) (by kernel_rfl)) (by kernel_rfl) (by kernel_rfl)

set_option maxRecDepth 100000 in
theorem lifted (os : Os) (started : os.Started) (H : Type) (enc : TypeId × Value → H) :
    ReturnsInHanded {} Tryd.checked os 3 .any (fun w args => (Rows.sheetPrintsSpec.pre enc Tryd.prog Tryd.f3 [] false w args ∧ laidMetH Tryd.prog laid3 w) ∧ sizedMet enc Tryd.prog Tryd.f3 (OpenSpec.ofChange Rows.sheetPrintsSpec) false w args)
      (Rows.sheetPrintsSpec.post enc Tryd.prog Tryd.f3 false true false false) := by
  refine returnsInHanded_of_change_and (C := Tryd.checked) (X := fun w _ => laidMetH Tryd.prog laid3 w) (fun _ _ _ hh h => h.of_heap hh) Tryd.own started (by kernel_rfl) Tryd.func3
    (ChangeSpec.witness_shaped (enc := enc) (C := Tryd.checked) (os := os) (X := fun w _ => laidMetH Tryd.prog laid3 w) false (World.doorLaid Tryd.prog 400 os) #[.agg #[.int .i64 0, .slice none 0 0]] 8 rfl (World.shaped_of_RefB (by kernel_rfl) (by kernel_rfl)) (by kernel_rfl) (by kernel_rfl) (by kernel_rfl) (door_met os _)) ?_
  intro W base args ds gs before hval0 hW _ hwt hL _
  have hval : ∀ (j : Nat) t v, Tryd.f3.params[j]? = some t → args[j]? = some v → Value.okWide Tryd.prog W .any base t v := hval0
  have hW' := hW
  obtain ⟨p, q, hA0, hV, rfl, hfz, hnd⟩ := hW
  have hA : DataW.TrodAll enc Tryd.prog W 0 (fun _ => true) true Tryd.f3.params.toList args.toList ds p := hA0
  have hwt : (DataW.weightsEach Tryd.prog (Tryd.f3.params.toList ++ Rows.sheetPrintsSpec.plain.varTypes Tryd.prog) (ds ++ gs)).all (· ≤ reachBytes) = true := hwt
  rw [Tryd.params3] at hA hval hwt
  obtain ⟨v0, d0, rfl, rfl, h0⟩ := trodAll_one hA
  obtain ⟨rfl, rfl⟩ := trodVars_none hV
  obtain ⟨m0, hm0, hz0, hn0⟩ := model_arg (hval 0 24 v0 rfl rfl) h0 (WtOK.args hwt (i := 0) rfl rfl)
  clear hA0 hval0
  simp only [List.append_nil] at hW'
  have hlt : ∀ x ∈ p, x.block < W.heap.size := fun x hx => hW'.lt x (by simpa using hx)
  refine (prints_any v0 m0 W hm0 (fun x hx => ⟨(hz0 x hx).1, (hz0 x hx).2.1⟩) (tab_of_laid hL)).mono fun e W' ⟨he, hbw⟩ => ?_
  subst he
  exact ⟨_, rfl, post_of_below (pa := p) (pv := []) hW' (fun _ _ _ => trodAll_mk1 (shut_bool Tryd.underlying4 _))
    (fun sp hsp => trodAll_mk1 (trod_behind Tryd.laidOut (by kernel_rfl) (of_decide_eq_true (by kernel_rfl)) h0 hbw (fun x hx => hlt x (by simp [hx])) sp (fun x hx => hsp x (by simp [hx]))))
    (fun _ _ => rfl) (by simp) hbw (ok_one (by kernel_rfl) rfl (okWide_bool_mk Tryd.underlying4 _))⟩

theorem sheetPrints_row : Rows.SheetPrintsSaid :=
  OpenClaim.holds_of_wide 3 Tryd.f3 rfl rfl rfl rfl rfl rfl rfl ⟨rfl, rfl, rfl, rfl, rfl⟩ rfl rfl rfl rfl rfl (by kernel_rfl) Tryd.func3 (by kernel_rfl)
    (of_decide_eq_true (by kernel_rfl)) (by unfold Func.isWrapper; rw [if_neg (of_decide_eq_false (by kernel_rfl))]; exact ⟨rfl, rfl⟩)
    (fun os started H enc _ => lifted os started H enc)
theorem sheetPrints_holds : Rows.SheetPrintsCardSaid :=
  Claim7.holds_tied_plain_at .later [] [.data, .data, .data] true (true, "564a803d83409ab7ecaf31256932c868c18b52727f23547081397b65eda189e8") false
    sheetPrints_row (fun _ h => by cases h) (by kernel_rfl) (fun _ h => by cases h) sheetPrints_row_tie rfl ⟨rfl, rfl⟩ (by kernel_rfl) rfl
    (fun f fn hf hfn => by
      obtain rfl : f = 3 := Option.some.inj ((show Tryd.prog.funcNamed "topiary/topiarylaw03.SheetPrints" = some 3 by kernel_rfl).symm.trans hf) |>.symm
      obtain rfl : fn = Tryd.f3 := (Option.some.inj (Tryd.func3.symm.trans hfn)).symm
      exact ⟨by kernel_rfl, fun j t ht => by
        rw [Tryd.params3] at ht
        have hm : t ∈ [24] := by simpa using Array.mem_of_getElem? ht
        have hall : ([24].all fun u => !Tryd.prog.wantsStandIn u) = true := by kernel_rfl
        exact (show Tryd.prog.wantsStandIn t = false by simpa using List.all_eq_true.1 hall t hm)⟩)
    (by kernel_rfl)
#print axioms sheetPrints_holds
end Go.Proofs.YtpkapommekkbcaaDoor
end
