import Derived.Test.YtmafhaadcjgcbaaDataW
import Derived.Test.YtmafhaadcjgcbaaSetDA
import Derived.Test.YtmafhaadcjgcbaaSetPA
import Derived.Test.YtmafhaadcjgcbaaSetDR
import Derived.Test.YtmafhaadcjgcbaaSetPR
import Derived.Test.YtmafhaadcjgcbaaAKept
import Derived.Test.YtmafhaadcjgcbaaAChecksP
import Derived.Test.YtmafhaadcjgcbaaADataA
import Derived.Test.YtmafhaadcjgcbaaRows
import Derived.HandedShaped
import Derived.ChangeMaps5
section
namespace Go.Proofs.Ytmafhaadcjgcbaa
open Go.ChangeShapes Go.WideShapes Go.ChangeAt Go.RowKit Go.Deep

/-! ### Five arguments -/
section
variable {H : Type} {enc : TypeId × Value → H} {P : Program} {w : World} {base : Nat} {spare : Nat → Bool} {held : Bool}
theorem trodAll_five {t t' t'' t3 t4 : TypeId} {args : Array Value} {ds : List (DataW H)} {ps : List MemPlace} (h : DataW.TrodAll enc P w base spare held [t, t', t'', t3, t4] args.toList ds ps) :
    ∃ v v' v'' v3 v4 d d' d'' d3 d4 p p' p'' p3 p4, args = #[v, v', v'', v3, v4] ∧ ds = [d, d', d'', d3, d4] ∧ ps = p ++ p' ++ p'' ++ p3 ++ p4 ∧ DataW.Trod enc P w base spare held t v d p ∧ DataW.Trod enc P w base spare held t' v' d' p' ∧ DataW.Trod enc P w base spare held t'' v'' d'' p'' ∧ DataW.Trod enc P w base spare held t3 v3 d3 p3 ∧ DataW.Trod enc P w base spare held t4 v4 d4 p4 := by
  obtain ⟨v, vs, d, ds', p, q, hargs, rfl, rfl, hd, hrest⟩ := trodAll_cons h
  obtain ⟨v', vs', d', ds'', p', q', rfl, rfl, rfl, hd', hrest'⟩ := trodAll_cons hrest
  obtain ⟨v'', vs'', d'', ds''', p'', q'', rfl, rfl, rfl, hd'', hrest''⟩ := trodAll_cons hrest'
  obtain ⟨v3, vs3, d3, ds3, p3, q3, rfl, rfl, rfl, hd3, hrest3⟩ := trodAll_cons hrest''
  obtain ⟨v4, vs4, d4, ds4, p4, q4, rfl, rfl, rfl, hd4, hrest4⟩ := trodAll_cons hrest3
  obtain ⟨rfl, rfl, rfl⟩ := trodAll_nil hrest4
  exact ⟨v, v', v'', v3, v4, d, d', d'', d3, d4, p, p', p'', p3, p4, by cases args; simp_all, rfl, by simp, hd, hd', hd'', hd3, hd4⟩
theorem trodAll_mk5 {t t' t'' t3 t4 : TypeId} {v v' v'' v3 v4 : Value} {d d' d'' d3 d4 : DataW H} {p p' p'' p3 p4 : List MemPlace} (h : DataW.Trod enc P w base spare held t v d p) (h' : DataW.Trod enc P w base spare held t' v' d' p')
    (h'' : DataW.Trod enc P w base spare held t'' v'' d'' p'') (h3 : DataW.Trod enc P w base spare held t3 v3 d3 p3) (h4 : DataW.Trod enc P w base spare held t4 v4 d4 p4) : DataW.TrodAll enc P w base spare held [t, t', t'', t3, t4] [v, v', v'', v3, v4] [d, d', d'', d3, d4] (p ++ (p' ++ (p'' ++ (p3 ++ p4)))) :=
  ⟨p, p' ++ (p'' ++ (p3 ++ p4)), h, trodAll_mk4 h' h'' h3 h4, rfl⟩
end
end Go.Proofs.Ytmafhaadcjgcbaa
end
section
/- the law of properties and references set and taken away -/
namespace Go.Proofs.Ytmafhaadcjgcbaa
open Go Go.RowKit

theorem Keep.setc {F : Nat → Prop} (w : World) (a : Addr) (u : Value) (hF : ∀ b, F b → b ≠ a.block) : Keep F w (w.setCell a u) :=
  fun _ hp => World.cell?_of_block (Below.heap_setCell _ _ _ _ (hF _ hp))
/-- the model that is answered -/
def setMo (m : AModel) (id E : Int) (g : ANode → ANode) : AModel :=
  if E ≠ 0 then ⟨0, []⟩ else ⟨m.next, match m.nodes[(atI m.nodes id).toNat]? with | some y => m.nodes.set (atI m.nodes id).toNat (g y) | none => []⟩
open Classical in
theorem setE_zero {m : AModel} {nm : ByteArray} {lg no : Prop} (h : setE m nm lg no = 0) : CheckM m := by
  by_cases hc : CheckM m
  · exact hc
  · rw [setE_check hc] at h; cases h
theorem set_got {w' : World} {base : Nat} {m : AModel} {id E : Int} {g : ANode → ANode} {v : Value} (hc : E = 0 → CheckM m) (h : SetAs w' base m id E g v) :
    ∃ A' c', v = .tuple #[.agg #[.int .i64 (setMo m id E g).next, .slice A' (setMo m id E g).nodes.length c'], .int .i64 E] ∧
      RowOf 7 ENode w' (fun b => base ≤ b ∧ b < w'.heap.size) A' (setMo m id E g).nodes ∧ (setMo m id E g).nodes.length ≤ 9223372036854775807 := by
  rcases h with ⟨hE, rfl⟩ | ⟨he, vl, l, rfl, hown, j, hj, hji, hl⟩
  · have e1 : setMo m id E g = ⟨0, []⟩ := if_pos hE
    rw [e1]
    exact ⟨none, 0, rfl, RowOf.nil _, by simp⟩
  · subst he
    have hC := hc rfl
    have ha : atI m.nodes id = j := by rw [← hji]; exact atI_some hC.1.srt hj rfl
    obtain ⟨A', c', hv, h3, h4, h5⟩ := hown.isRow (F := fun b => base ≤ b ∧ b < w'.heap.size) (fun b h1 h2 => ⟨h1, h2⟩)
    have hm : setMo m id 0 g = ⟨m.next, l.map LN.n⟩ := by
      unfold setMo
      rw [if_neg (fun e => e rfl), ha, Int.toNat_natCast, List.getElem?_eq_getElem hj, hl]
    rw [hm]
    subst hv
    unfold maxLen at h4
    exact ⟨A', c', by simp, h5, by show (l.map LN.n).length ≤ _; omega⟩

set_option maxRecDepth 100000 in
set_option maxHeartbeats 4000000 in
theorem sets_any (va : Value) (m : AModel) (id : Int) (nm val : ByteArray) (tg : Int) (w : World) (h : IsModel w (fun b => b < w.heap.size) va m) (hid : InR id) (htg : InR tg) (hns : nm.size ≤ 9223372036854775807) (hvs : val.size ≤ 9223372036854775807) (hz : ∀ x ∈ m.nodes, NodeOK x ∧ LensOK x) :
    Calls Try.prog 6 #[va, .int .i64 id, .string nm, .string val, .int .i64 tg] w fun e w' => e = .returned (.bool true) ∧ Below w.heap.size w w' := by
  have HMA := Lib.hid h
  obtain ⟨_, rfl, A, c, rfl, ca1, ca2, ra⟩ := h
  unfold maxLen at ca2
  have HB0 := Lib.hid ((Below.refl w.heap.size w).alloc (Nat.le_refl _) (.cells #[.int .i64 m.next, .slice A m.nodes.length c] 24))
  have HGA := Lib.hid (fun (w0 : World) (hb0 : Below w.heap.size w w0) => great_any _ m w0 _ (HMA.out.keep (Keep.below hb0 fun _ h => h) (F' := fun b => b < w0.heap.size) (fun b hb => Nat.lt_of_lt_of_le hb hb0.size)))
  have HRA := Lib.hid (fun (w0 : World) (hb0 : Below w.heap.size w w0) => RowOf.keep ENode.stays (Keep.below hb0 fun _ h => h) (F' := fun b => b < w.heap.size) (fun _ h => h) ra)
  have HZ := Lib.hid hz
  clear hz ra
  by_cases hgr : 300 < m.nodes.length
  · have HG := Lib.hid (fun w0 hb0 => res_is (decide_eq_true hgr) (HGA.out w0 hb0))
    clear hgr HGA HRA
    go_enter Try.func6, Try.ntmps6
    go_wp2_with fail
    refine (HG.out _ HB0.out).mono ?_
    rintro _ w2 ⟨rfl, hb2⟩
    have HB2 := Lib.hid (HB0.out.trans (hb2.mono HB0.out.size))
    clear hb2
    go_wp2
    go_ret
    exact ⟨rfl, HB2.out⟩
  · have hln : m.nodes.length ≤ 300 := by omega
    have HG := Lib.hid (fun w0 hb0 => res_is (decide_eq_false hgr) (HGA.out w0 hb0))
    have HLE := Lib.hid (fun (w0 : World) (hb0 : Below w.heap.size w w0) => lent_any A c m w0 (fun b => b < w.heap.size) (fun b hb => Nat.lt_of_lt_of_le hb hb0.size) (HRA.out w0 hb0) (fun x hx => (HZ.out x hx).2) hln)
    clear hgr HGA
    go_enter Try.func6, Try.ntmps6
    go_wp2_with fail
    refine (HG.out _ HB0.out).mono ?_
    rintro _ w2 ⟨rfl, hb2⟩
    have HB2 := Lib.hid (HB0.out.trans (hb2.mono HB0.out.size))
    have HM2 := Lib.hid ((Blk.new w 24 #[.int .i64 m.next, .slice A m.nodes.length c]).below hb2 (by simp))
    have m0 := HM2.out.cell 0; have m1 := HM2.out.cell 1
    have hmlt := HM2.out.lt
    simp at m0 m1
    clear hb2 HB0 HG
    go_wp2_with fail
    refine (HLE.out _ HB2.out).mono ?_
    rintro _ w3 ⟨_, rfl, ⟨_, rfl, X, cx, rfl, hm3⟩, hb3⟩
    have HB3 := Lib.hid (HB2.out.trans (hb3.mono HB2.out.size))
    have HM3 := Lib.hid (HM2.out.below hb3 hmlt)
    have HX3 := Lib.hid hm3
    have hsz3 := HM3.out.lt
    clear hb3 m0 m1 HLE HB2 HM2 hmlt
    go_wp2_with fail
    obtain ⟨p, hp⟩ : ∃ p, w3.heap.size = p := ⟨_, rfl⟩
    obtain ⟨W, hW⟩ : ∃ W : World, w3.alloc (.cells #[.int .i64 m.next, .slice X m.nodes.length cx] 24) = W := ⟨_, rfl⟩
    have HBW : Hid (Below w.heap.size w W) := Lib.hid (by rw [← hW]; exact HB3.out.alloc HB3.out.size _)
    have HMW : Hid (Blk W w.heap.size 24 #[.int .i64 m.next, .slice A m.nodes.length c]) := Lib.hid (by rw [← hW]; exact HM3.out.alloc _)
    have HXW : Hid (Blk W p 24 #[.int .i64 m.next, .slice X m.nodes.length cx]) := Lib.hid (by rw [← hW, ← hp]; exact Blk.new _ _ _)
    have HLW : Hid (IsModelM W (fun b => b < w3.heap.size) (.agg #[.int .i64 m.next, .slice X m.nodes.length cx]) m) := Lib.hid (by rw [← hW]; exact IsModelM.keep (⟨_, rfl, X, cx, rfl, HX3.out⟩ : IsModelM w3 (fun b => w2.heap.size ≤ b ∧ b < w3.heap.size) (.agg #[.int .i64 m.next, .slice X m.nodes.length cx]) m) (Keep.below ((Below.refl _ _).alloc (Nat.le_refl _) _) (fun b hb => hb.2)) (fun b hb => hb.2))
    have HPW : Hid (w3.heap.size ≤ p ∧ p < W.heap.size) := Lib.hid ⟨by omega, HXW.out.lt⟩
    have hmW := HMW.out.lt
    rw [hp] at HLW HPW
    rw [hW, hp]
    clear hW hp HX3 HB3 HM3 hsz3
    have hFp : ∀ b, b < p → b < W.heap.size := fun b hb => Nat.lt_trans hb HPW.out.2
    have hRX : RowOf 7 ENode W (fun b => b < p) X m.nodes ∧ cx ≤ 9223372036854775807 := by
      obtain ⟨_, e, A', c', e2, _, x2, x3⟩ := HLW.out.plain
      simp only [Value.agg.injEq, Array.mk.injEq, List.cons.injEq, true_and, and_true] at e
      subst e
      injection e2 with f1 _ f2
      subst f1; subst f2
      unfold maxLen at x2
      exact ⟨x3, x2⟩
    have hcx := hRX.2
    have HRX := Lib.hid hRX.1
    clear hRX
    have HFX := Lib.hid (fun (w0 : World) (hb0 : Below W.heap.size W w0) (b : Nat) (hb : b < p) => Nat.lt_of_lt_of_le (hFp b hb) hb0.size)
    have HRXr := Lib.hid (fun (w0 : World) (hb0 : Below W.heap.size W w0) => HRX.out.keep ENode.stays (Keep.below hb0 hFp) (F' := fun b => b < p) (fun _ h => h))
    have HRM : Hid (∀ V, Below W.heap.size W V → (∀ b, b < w.heap.size → b < V.heap.size) ∧ RowOf 7 ENode V (fun b => b < w.heap.size) A m.nodes) := Lib.hid (fun V hV => ⟨fun b hb => by have := HBW.out.size; have := hV.size; omega, HRA.out _ (HBW.out.trans (hV.mono HBW.out.size))⟩)
    obtain ⟨EP, hEP⟩ : ∃ E, setE m nm (4096 < val.size) (atI m.nodes id < 0) = E := ⟨_, rfl⟩
    have HCP : Hid (EP = 0 → CheckM m) := Lib.hid (by rw [← hEP]; exact setE_zero)
    obtain ⟨MP, hMP⟩ : ∃ M, setMo m id EP (putN nm val) = M := ⟨_, rfl⟩
    have HEP := Lib.hid hEP; have HMOP := Lib.hid hMP
    clear hEP hMP
    obtain ⟨ED, hED⟩ : ∃ E, setE m nm False (atI m.nodes id < 0) = E := ⟨_, rfl⟩
    have HCD : Hid (ED = 0 → CheckM m) := Lib.hid (by rw [← hED]; exact setE_zero)
    obtain ⟨MD, hMD⟩ : ∃ M, setMo m id ED (dropN nm) = M := ⟨_, rfl⟩
    have HED := Lib.hid hED; have HMOD := Lib.hid hMD
    clear hED hMD
    obtain ⟨EA, hEA⟩ : ∃ E, setE m nm False (atI m.nodes id < 0 ∨ atI m.nodes tg < 0) = E := ⟨_, rfl⟩
    have HCA : Hid (EA = 0 → CheckM m) := Lib.hid (by rw [← hEA]; exact setE_zero)
    obtain ⟨MA, hMA⟩ : ∃ M, setMo m id EA (aimN nm tg) = M := ⟨_, rfl⟩
    have HEA := Lib.hid hEA; have HMOA := Lib.hid hMA
    clear hEA hMA
    obtain ⟨EL, hEL⟩ : ∃ E, setE m nm False (atI m.nodes id < 0) = E := ⟨_, rfl⟩
    have HCL : Hid (EL = 0 → CheckM m) := Lib.hid (by rw [← hEL]; exact setE_zero)
    obtain ⟨ML, hML⟩ : ∃ M, setMo m id EL (looseN nm) = M := ⟨_, rfl⟩
    have HEL := Lib.hid hEL; have HMOL := Lib.hid hML
    clear hEL hML
    have HBc0 := Lib.hid (Below.refl W.heap.size W)
    have HMc0 := HMW; have HXc0 := HXW
    have x0 := HXc0.out.cell 0; have x1 := HXc0.out.cell 1
    have xlt := HXc0.out.lt
    simp at x0 x1
    go_wp2_with fail
    refine (putA_any X cx m W (fun b => b < p) (HFX.out _ HBc0.out) (HRXr.out _ HBc0.out) (fun x hx => (HZ.out x hx).1) (fun x hx => (HZ.out x hx).2) (by omega) id hid nm hns val hvs).mono ?_
    rintro _ v1 ⟨⟨v, rfl, hf⟩, hb⟩
    rw [HEP.out] at hf
    obtain ⟨A1, c1, hv, hr, hl1⟩ := set_got HCP.out hf
    rw [HMOP.out] at hv hr hl1
    subst hv
    obtain ⟨s1, hs1⟩ : ∃ s, W.heap.size = s := ⟨_, rfl⟩
    have HS1 := Lib.hid hs1
    rw [hs1] at hr
    clear hs1 hf
    clear x0 x1 xlt
    have HBv1 := Lib.hid (HBc0.out.trans (hb.mono HBc0.out.size))
    have HMv1 := Lib.hid (HMc0.out.below hb HMc0.out.lt)
    have HXv1 := Lib.hid (HXc0.out.below hb HXc0.out.lt)
    clear HBc0 HMc0 HXc0
    have HR1v1 := Lib.hid hr
    clear hr hb
    obtain ⟨q1, hq1⟩ : ∃ q, v1.heap.size = q := ⟨_, rfl⟩
    have HC1 : Hid (Below v1.heap.size v1 (v1.alloc (.cells #[.int .i64 MP.next, .slice A1 MP.nodes.length c1] 24))) := Lib.hid ((Below.refl _ _).alloc (Nat.le_refl _) _)
    have HQ1a1 : Hid (Blk (v1.alloc (.cells #[.int .i64 MP.next, .slice A1 MP.nodes.length c1] 24)) q1 24 #[.int .i64 MP.next, .slice A1 MP.nodes.length c1]) := Lib.hid (by rw [← hq1]; exact Blk.new _ _ _)
    have HQW1 : Hid (W.heap.size ≤ q1) := Lib.hid (by rw [← hq1]; exact HBv1.out.size)
    have HWE : Hid (∃ z, v1.alloc (.cells #[.int .i64 MP.next, .slice A1 MP.nodes.length c1] 24) = z) := Lib.hid ⟨_, rfl⟩
    go_upto_region 5 with fail
    obtain ⟨a1, hu⟩ := HWE.out
    rw [hu] at HC1 HQ1a1
    (try rw [hu])
    (try rw [hq1])
    clear hq1 HWE hu
    have HBa1 := Lib.hid (HBv1.out.trans (HC1.out.mono HBv1.out.size))
    have HMa1 := Lib.hid (HMv1.out.below HC1.out HMv1.out.lt)
    have HXa1 := Lib.hid (HXv1.out.below HC1.out HXv1.out.lt)
    have HR1a1 := Lib.hid (HR1v1.out.keep ENode.stays (Keep.below HC1.out (fun b hb => hb.2)) (F' := fun b => s1 ≤ b ∧ b < a1.heap.size) (fun b hx => ⟨hx.1, Nat.lt_of_lt_of_le hx.2 HC1.out.size⟩))
    clear HBv1 HMv1 HXv1 HR1v1
    clear HC1
    have m0 := HMa1.out.cell 0; have m1 := HMa1.out.cell 1
    have mlt := HMa1.out.lt
    simp at m0 m1
    go_wp2_with fail
    refine (putR_any A c m a1 (fun b => b < w.heap.size) (HRM.out _ HBa1.out).1 (HRM.out _ HBa1.out).2 (fun x hx => (HZ.out x hx).1) (fun x hx => (HZ.out x hx).2) (by omega) id hid nm hns val hvs).mono ?_
    rintro _ v2 ⟨⟨v, rfl, hf⟩, hb⟩
    rw [HEP.out] at hf
    obtain ⟨A2, c2, hv, hr, hl2⟩ := set_got HCP.out hf
    rw [HMOP.out] at hv hr hl2
    subst hv
    obtain ⟨s2, hs2⟩ : ∃ s, a1.heap.size = s := ⟨_, rfl⟩
    have HS2 := Lib.hid hs2
    rw [hs2] at hr
    clear hs2 hf
    clear m0 m1 mlt
    have HBv2 := Lib.hid (HBa1.out.trans (hb.mono HBa1.out.size))
    have HMv2 := Lib.hid (HMa1.out.below hb HMa1.out.lt)
    have HXv2 := Lib.hid (HXa1.out.below hb HXa1.out.lt)
    have HQ1v2 := Lib.hid (HQ1a1.out.below hb HQ1a1.out.lt)
    have HR1v2 := Lib.hid (HR1a1.out.keep ENode.stays (Keep.below hb (fun b hb => hb.2)) (F' := fun b => s1 ≤ b ∧ b < v2.heap.size) (fun b hx => ⟨hx.1, Nat.lt_of_lt_of_le hx.2 hb.size⟩))
    clear HBa1 HMa1 HXa1 HQ1a1 HR1a1
    have HR2v2 := Lib.hid hr
    clear hr hb
    obtain ⟨q2, hq2⟩ : ∃ q, v2.heap.size = q := ⟨_, rfl⟩
    have HC2 : Hid (Below v2.heap.size v2 (v2.alloc (.cells #[.int .i64 MP.next, .slice A2 MP.nodes.length c2] 24))) := Lib.hid ((Below.refl _ _).alloc (Nat.le_refl _) _)
    have HQ2a2 : Hid (Blk (v2.alloc (.cells #[.int .i64 MP.next, .slice A2 MP.nodes.length c2] 24)) q2 24 #[.int .i64 MP.next, .slice A2 MP.nodes.length c2]) := Lib.hid (by rw [← hq2]; exact Blk.new _ _ _)
    have HNQ12 : Hid (q1 ≠ q2) := Lib.hid (by have := HQ1v2.out.lt; omega)
    have HQW2 : Hid (W.heap.size ≤ q2) := Lib.hid (by rw [← hq2]; exact HBv2.out.size)
    have HWE : Hid (∃ z, v2.alloc (.cells #[.int .i64 MP.next, .slice A2 MP.nodes.length c2] 24) = z) := Lib.hid ⟨_, rfl⟩
    go_upto_region 6 with fail
    obtain ⟨a2, hu⟩ := HWE.out
    rw [hu] at HC2 HQ2a2
    (try rw [hu])
    (try rw [hq2])
    clear hq2 HWE hu
    have HBa2 := Lib.hid (HBv2.out.trans (HC2.out.mono HBv2.out.size))
    have HMa2 := Lib.hid (HMv2.out.below HC2.out HMv2.out.lt)
    have HXa2 := Lib.hid (HXv2.out.below HC2.out HXv2.out.lt)
    have HQ1a2 := Lib.hid (HQ1v2.out.below HC2.out HQ1v2.out.lt)
    have HR1a2 := Lib.hid (HR1v2.out.keep ENode.stays (Keep.below HC2.out (fun b hb => hb.2)) (F' := fun b => s1 ≤ b ∧ b < a2.heap.size) (fun b hx => ⟨hx.1, Nat.lt_of_lt_of_le hx.2 HC2.out.size⟩))
    have HR2a2 := Lib.hid (HR2v2.out.keep ENode.stays (Keep.below HC2.out (fun b hb => hb.2)) (F' := fun b => s2 ≤ b ∧ b < a2.heap.size) (fun b hx => ⟨hx.1, Nat.lt_of_lt_of_le hx.2 HC2.out.size⟩))
    clear HBv2 HMv2 HXv2 HQ1v2 HR1v2 HR2v2
    clear HC2
    have x0 := HXa2.out.cell 0; have x1 := HXa2.out.cell 1
    have xlt := HXa2.out.lt
    simp at x0 x1
    go_wp2_with fail
    refine (dropA_any X cx m a2 (fun b => b < p) (HFX.out _ HBa2.out) (HRXr.out _ HBa2.out) (fun x hx => (HZ.out x hx).1) (fun x hx => (HZ.out x hx).2) (by omega) id hid nm hns).mono ?_
    rintro _ v3 ⟨⟨v, rfl, hf⟩, hb⟩
    rw [HED.out] at hf
    obtain ⟨A3, c3, hv, hr, hl3⟩ := set_got HCD.out hf
    rw [HMOD.out] at hv hr hl3
    subst hv
    obtain ⟨s3, hs3⟩ : ∃ s, a2.heap.size = s := ⟨_, rfl⟩
    have HS3 := Lib.hid hs3
    rw [hs3] at hr
    clear hs3 hf
    clear x0 x1 xlt
    have HBv3 := Lib.hid (HBa2.out.trans (hb.mono HBa2.out.size))
    have HMv3 := Lib.hid (HMa2.out.below hb HMa2.out.lt)
    have HXv3 := Lib.hid (HXa2.out.below hb HXa2.out.lt)
    have HQ1v3 := Lib.hid (HQ1a2.out.below hb HQ1a2.out.lt)
    have HQ2v3 := Lib.hid (HQ2a2.out.below hb HQ2a2.out.lt)
    have HR1v3 := Lib.hid (HR1a2.out.keep ENode.stays (Keep.below hb (fun b hb => hb.2)) (F' := fun b => s1 ≤ b ∧ b < v3.heap.size) (fun b hx => ⟨hx.1, Nat.lt_of_lt_of_le hx.2 hb.size⟩))
    have HR2v3 := Lib.hid (HR2a2.out.keep ENode.stays (Keep.below hb (fun b hb => hb.2)) (F' := fun b => s2 ≤ b ∧ b < v3.heap.size) (fun b hx => ⟨hx.1, Nat.lt_of_lt_of_le hx.2 hb.size⟩))
    clear HBa2 HMa2 HXa2 HQ1a2 HQ2a2 HR1a2 HR2a2
    have HR3v3 := Lib.hid hr
    clear hr hb
    obtain ⟨q3, hq3⟩ : ∃ q, v3.heap.size = q := ⟨_, rfl⟩
    have HC3 : Hid (Below v3.heap.size v3 (v3.alloc (.cells #[.int .i64 MD.next, .slice A3 MD.nodes.length c3] 24))) := Lib.hid ((Below.refl _ _).alloc (Nat.le_refl _) _)
    have HQ3a3 : Hid (Blk (v3.alloc (.cells #[.int .i64 MD.next, .slice A3 MD.nodes.length c3] 24)) q3 24 #[.int .i64 MD.next, .slice A3 MD.nodes.length c3]) := Lib.hid (by rw [← hq3]; exact Blk.new _ _ _)
    have HNQ13 : Hid (q1 ≠ q3) := Lib.hid (by have := HQ1v3.out.lt; omega)
    have HNQ23 : Hid (q2 ≠ q3) := Lib.hid (by have := HQ2v3.out.lt; omega)
    have HQW3 : Hid (W.heap.size ≤ q3) := Lib.hid (by rw [← hq3]; exact HBv3.out.size)
    have HWE : Hid (∃ z, v3.alloc (.cells #[.int .i64 MD.next, .slice A3 MD.nodes.length c3] 24) = z) := Lib.hid ⟨_, rfl⟩
    go_upto_region 7 with fail
    obtain ⟨a3, hu⟩ := HWE.out
    rw [hu] at HC3 HQ3a3
    (try rw [hu])
    (try rw [hq3])
    clear hq3 HWE hu
    have HBa3 := Lib.hid (HBv3.out.trans (HC3.out.mono HBv3.out.size))
    have HMa3 := Lib.hid (HMv3.out.below HC3.out HMv3.out.lt)
    have HXa3 := Lib.hid (HXv3.out.below HC3.out HXv3.out.lt)
    have HQ1a3 := Lib.hid (HQ1v3.out.below HC3.out HQ1v3.out.lt)
    have HQ2a3 := Lib.hid (HQ2v3.out.below HC3.out HQ2v3.out.lt)
    have HR1a3 := Lib.hid (HR1v3.out.keep ENode.stays (Keep.below HC3.out (fun b hb => hb.2)) (F' := fun b => s1 ≤ b ∧ b < a3.heap.size) (fun b hx => ⟨hx.1, Nat.lt_of_lt_of_le hx.2 HC3.out.size⟩))
    have HR2a3 := Lib.hid (HR2v3.out.keep ENode.stays (Keep.below HC3.out (fun b hb => hb.2)) (F' := fun b => s2 ≤ b ∧ b < a3.heap.size) (fun b hx => ⟨hx.1, Nat.lt_of_lt_of_le hx.2 HC3.out.size⟩))
    have HR3a3 := Lib.hid (HR3v3.out.keep ENode.stays (Keep.below HC3.out (fun b hb => hb.2)) (F' := fun b => s3 ≤ b ∧ b < a3.heap.size) (fun b hx => ⟨hx.1, Nat.lt_of_lt_of_le hx.2 HC3.out.size⟩))
    clear HBv3 HMv3 HXv3 HQ1v3 HQ2v3 HR1v3 HR2v3 HR3v3
    clear HC3
    have m0 := HMa3.out.cell 0; have m1 := HMa3.out.cell 1
    have mlt := HMa3.out.lt
    simp at m0 m1
    go_wp2_with fail
    refine (dropR_any A c m a3 (fun b => b < w.heap.size) (HRM.out _ HBa3.out).1 (HRM.out _ HBa3.out).2 (fun x hx => (HZ.out x hx).1) (fun x hx => (HZ.out x hx).2) (by omega) id hid nm hns).mono ?_
    rintro _ v4 ⟨⟨v, rfl, hf⟩, hb⟩
    rw [HED.out] at hf
    obtain ⟨A4, c4, hv, hr, hl4⟩ := set_got HCD.out hf
    rw [HMOD.out] at hv hr hl4
    subst hv
    obtain ⟨s4, hs4⟩ : ∃ s, a3.heap.size = s := ⟨_, rfl⟩
    have HS4 := Lib.hid hs4
    rw [hs4] at hr
    clear hs4 hf
    clear m0 m1 mlt
    have HBv4 := Lib.hid (HBa3.out.trans (hb.mono HBa3.out.size))
    have HMv4 := Lib.hid (HMa3.out.below hb HMa3.out.lt)
    have HXv4 := Lib.hid (HXa3.out.below hb HXa3.out.lt)
    have HQ1v4 := Lib.hid (HQ1a3.out.below hb HQ1a3.out.lt)
    have HQ2v4 := Lib.hid (HQ2a3.out.below hb HQ2a3.out.lt)
    have HQ3v4 := Lib.hid (HQ3a3.out.below hb HQ3a3.out.lt)
    have HR1v4 := Lib.hid (HR1a3.out.keep ENode.stays (Keep.below hb (fun b hb => hb.2)) (F' := fun b => s1 ≤ b ∧ b < v4.heap.size) (fun b hx => ⟨hx.1, Nat.lt_of_lt_of_le hx.2 hb.size⟩))
    have HR2v4 := Lib.hid (HR2a3.out.keep ENode.stays (Keep.below hb (fun b hb => hb.2)) (F' := fun b => s2 ≤ b ∧ b < v4.heap.size) (fun b hx => ⟨hx.1, Nat.lt_of_lt_of_le hx.2 hb.size⟩))
    have HR3v4 := Lib.hid (HR3a3.out.keep ENode.stays (Keep.below hb (fun b hb => hb.2)) (F' := fun b => s3 ≤ b ∧ b < v4.heap.size) (fun b hx => ⟨hx.1, Nat.lt_of_lt_of_le hx.2 hb.size⟩))
    clear HBa3 HMa3 HXa3 HQ1a3 HQ2a3 HQ3a3 HR1a3 HR2a3 HR3a3
    have HR4v4 := Lib.hid hr
    clear hr hb
    obtain ⟨q4, hq4⟩ : ∃ q, v4.heap.size = q := ⟨_, rfl⟩
    have HC4 : Hid (Below v4.heap.size v4 (v4.alloc (.cells #[.int .i64 MD.next, .slice A4 MD.nodes.length c4] 24))) := Lib.hid ((Below.refl _ _).alloc (Nat.le_refl _) _)
    have HQ4a4 : Hid (Blk (v4.alloc (.cells #[.int .i64 MD.next, .slice A4 MD.nodes.length c4] 24)) q4 24 #[.int .i64 MD.next, .slice A4 MD.nodes.length c4]) := Lib.hid (by rw [← hq4]; exact Blk.new _ _ _)
    have HNQ14 : Hid (q1 ≠ q4) := Lib.hid (by have := HQ1v4.out.lt; omega)
    have HNQ24 : Hid (q2 ≠ q4) := Lib.hid (by have := HQ2v4.out.lt; omega)
    have HNQ34 : Hid (q3 ≠ q4) := Lib.hid (by have := HQ3v4.out.lt; omega)
    have HQW4 : Hid (W.heap.size ≤ q4) := Lib.hid (by rw [← hq4]; exact HBv4.out.size)
    have HWE : Hid (∃ z, v4.alloc (.cells #[.int .i64 MD.next, .slice A4 MD.nodes.length c4] 24) = z) := Lib.hid ⟨_, rfl⟩
    go_upto_region 8 with fail
    obtain ⟨a4, hu⟩ := HWE.out
    rw [hu] at HC4 HQ4a4
    (try rw [hu])
    (try rw [hq4])
    clear hq4 HWE hu
    have HBa4 := Lib.hid (HBv4.out.trans (HC4.out.mono HBv4.out.size))
    have HMa4 := Lib.hid (HMv4.out.below HC4.out HMv4.out.lt)
    have HXa4 := Lib.hid (HXv4.out.below HC4.out HXv4.out.lt)
    have HQ1a4 := Lib.hid (HQ1v4.out.below HC4.out HQ1v4.out.lt)
    have HQ2a4 := Lib.hid (HQ2v4.out.below HC4.out HQ2v4.out.lt)
    have HQ3a4 := Lib.hid (HQ3v4.out.below HC4.out HQ3v4.out.lt)
    have HR1a4 := Lib.hid (HR1v4.out.keep ENode.stays (Keep.below HC4.out (fun b hb => hb.2)) (F' := fun b => s1 ≤ b ∧ b < a4.heap.size) (fun b hx => ⟨hx.1, Nat.lt_of_lt_of_le hx.2 HC4.out.size⟩))
    have HR2a4 := Lib.hid (HR2v4.out.keep ENode.stays (Keep.below HC4.out (fun b hb => hb.2)) (F' := fun b => s2 ≤ b ∧ b < a4.heap.size) (fun b hx => ⟨hx.1, Nat.lt_of_lt_of_le hx.2 HC4.out.size⟩))
    have HR3a4 := Lib.hid (HR3v4.out.keep ENode.stays (Keep.below HC4.out (fun b hb => hb.2)) (F' := fun b => s3 ≤ b ∧ b < a4.heap.size) (fun b hx => ⟨hx.1, Nat.lt_of_lt_of_le hx.2 HC4.out.size⟩))
    have HR4a4 := Lib.hid (HR4v4.out.keep ENode.stays (Keep.below HC4.out (fun b hb => hb.2)) (F' := fun b => s4 ≤ b ∧ b < a4.heap.size) (fun b hx => ⟨hx.1, Nat.lt_of_lt_of_le hx.2 HC4.out.size⟩))
    clear HBv4 HMv4 HXv4 HQ1v4 HQ2v4 HQ3v4 HR1v4 HR2v4 HR3v4 HR4v4
    clear HC4
    have gP : (EP != EP) = false := by simp
    have gD : (ED != ED) = false := by simp
    have f0 := HQ1a4.out.cell 0; have f1 := HQ1a4.out.cell 1
    have flt := HQ1a4.out.lt
    have g0 := HQ2a4.out.cell 0; have g1 := HQ2a4.out.cell 1
    have glt := HQ2a4.out.lt
    simp at f0 f1 g0 g1
    go_wp2_with fail
    refine (res_is (eqB_yes (rfl : MP = MP)) (same_any A1 A2 c1 c2 MP MP a4 (fun b => s1 ≤ b ∧ b < a4.heap.size) (fun b => s2 ≤ b ∧ b < a4.heap.size) (fun _ h => h.2) (fun _ h => h.2) HR1a4.out HR2a4.out hl1)).mono ?_
    rintro _ d1 ⟨rfl, hb⟩
    clear f0 f1 g0 g1 flt glt
    have HBd1 := Lib.hid (HBa4.out.trans (hb.mono HBa4.out.size))
    have HMd1 := Lib.hid (HMa4.out.below hb HMa4.out.lt)
    have HXd1 := Lib.hid (HXa4.out.below hb HXa4.out.lt)
    have HQ1d1 := Lib.hid (HQ1a4.out.below hb HQ1a4.out.lt)
    have HQ2d1 := Lib.hid (HQ2a4.out.below hb HQ2a4.out.lt)
    have HQ3d1 := Lib.hid (HQ3a4.out.below hb HQ3a4.out.lt)
    have HQ4d1 := Lib.hid (HQ4a4.out.below hb HQ4a4.out.lt)
    have HR1d1 := Lib.hid (HR1a4.out.keep ENode.stays (Keep.below hb (fun b hb => hb.2)) (F' := fun b => s1 ≤ b ∧ b < d1.heap.size) (fun b hx => ⟨hx.1, Nat.lt_of_lt_of_le hx.2 hb.size⟩))
    have HR2d1 := Lib.hid (HR2a4.out.keep ENode.stays (Keep.below hb (fun b hb => hb.2)) (F' := fun b => s2 ≤ b ∧ b < d1.heap.size) (fun b hx => ⟨hx.1, Nat.lt_of_lt_of_le hx.2 hb.size⟩))
    have HR3d1 := Lib.hid (HR3a4.out.keep ENode.stays (Keep.below hb (fun b hb => hb.2)) (F' := fun b => s3 ≤ b ∧ b < d1.heap.size) (fun b hx => ⟨hx.1, Nat.lt_of_lt_of_le hx.2 hb.size⟩))
    have HR4d1 := Lib.hid (HR4a4.out.keep ENode.stays (Keep.below hb (fun b hb => hb.2)) (F' := fun b => s4 ≤ b ∧ b < d1.heap.size) (fun b hx => ⟨hx.1, Nat.lt_of_lt_of_le hx.2 hb.size⟩))
    clear HBa4 HMa4 HXa4 HQ1a4 HQ2a4 HQ3a4 HQ4a4 HR1a4 HR2a4 HR3a4 HR4a4
    clear hb
    have f0 := HQ3d1.out.cell 0; have f1 := HQ3d1.out.cell 1
    have flt := HQ3d1.out.lt
    have g0 := HQ4d1.out.cell 0; have g1 := HQ4d1.out.cell 1
    have glt := HQ4d1.out.lt
    simp at f0 f1 g0 g1
    go_wp2_with fail
    refine (res_is (eqB_yes (rfl : MD = MD)) (same_any A3 A4 c3 c4 MD MD d1 (fun b => s3 ≤ b ∧ b < d1.heap.size) (fun b => s4 ≤ b ∧ b < d1.heap.size) (fun _ h => h.2) (fun _ h => h.2) HR3d1.out HR4d1.out hl3)).mono ?_
    rintro _ d2 ⟨rfl, hb⟩
    clear f0 f1 g0 g1 flt glt
    have HBd2 := Lib.hid (HBd1.out.trans (hb.mono HBd1.out.size))
    have HMd2 := Lib.hid (HMd1.out.below hb HMd1.out.lt)
    have HXd2 := Lib.hid (HXd1.out.below hb HXd1.out.lt)
    have HQ1d2 := Lib.hid (HQ1d1.out.below hb HQ1d1.out.lt)
    have HQ2d2 := Lib.hid (HQ2d1.out.below hb HQ2d1.out.lt)
    have HQ3d2 := Lib.hid (HQ3d1.out.below hb HQ3d1.out.lt)
    have HQ4d2 := Lib.hid (HQ4d1.out.below hb HQ4d1.out.lt)
    have HR1d2 := Lib.hid (HR1d1.out.keep ENode.stays (Keep.below hb (fun b hb => hb.2)) (F' := fun b => s1 ≤ b ∧ b < d2.heap.size) (fun b hx => ⟨hx.1, Nat.lt_of_lt_of_le hx.2 hb.size⟩))
    have HR2d2 := Lib.hid (HR2d1.out.keep ENode.stays (Keep.below hb (fun b hb => hb.2)) (F' := fun b => s2 ≤ b ∧ b < d2.heap.size) (fun b hx => ⟨hx.1, Nat.lt_of_lt_of_le hx.2 hb.size⟩))
    have HR3d2 := Lib.hid (HR3d1.out.keep ENode.stays (Keep.below hb (fun b hb => hb.2)) (F' := fun b => s3 ≤ b ∧ b < d2.heap.size) (fun b hx => ⟨hx.1, Nat.lt_of_lt_of_le hx.2 hb.size⟩))
    have HR4d2 := Lib.hid (HR4d1.out.keep ENode.stays (Keep.below hb (fun b hb => hb.2)) (F' := fun b => s4 ≤ b ∧ b < d2.heap.size) (fun b hx => ⟨hx.1, Nat.lt_of_lt_of_le hx.2 hb.size⟩))
    clear HBd1 HMd1 HXd1 HQ1d1 HQ2d1 HQ3d1 HQ4d1 HR1d1 HR2d1 HR3d1 HR4d1
    clear hb
    clear HR1d2 HR2d2 HR3d2 HR4d2
    have hlt1 := HQ1d2.out.lt; have hlt2 := HQ2d2.out.lt; have hlt3 := HQ3d2.out.lt; have hlt4 := HQ4d2.out.lt
    have x0 := HXd2.out.cell 0; have x1 := HXd2.out.cell 1
    have xlt := HXd2.out.lt
    simp at x0 x1
    go_wp2_with fail
    refine (aimA_any X cx m d2 (fun b => b < p) (HFX.out _ HBd2.out) (HRXr.out _ HBd2.out) (fun x hx => (HZ.out x hx).1) (fun x hx => (HZ.out x hx).2) (by omega) id hid nm hns tg htg).mono ?_
    rintro _ v5 ⟨⟨v, rfl, hf⟩, hb⟩
    rw [HEA.out] at hf
    obtain ⟨A5, c5, hv, hr, hl5⟩ := set_got HCA.out hf
    rw [HMOA.out] at hv hr hl5
    subst hv
    obtain ⟨s5, hs5⟩ : ∃ s, d2.heap.size = s := ⟨_, rfl⟩
    have HS5 := Lib.hid hs5
    rw [hs5] at hr
    clear hs5 hf
    clear x0 x1 xlt
    have HBv5 := Lib.hid (HBd2.out.trans (hb.mono HBd2.out.size))
    have HMv5 := Lib.hid (HMd2.out.below hb HMd2.out.lt)
    have HXv5 := Lib.hid (HXd2.out.below hb HXd2.out.lt)
    have HQ1v5 := Lib.hid (HQ1d2.out.below hb HQ1d2.out.lt)
    have HQ2v5 := Lib.hid (HQ2d2.out.below hb HQ2d2.out.lt)
    have HQ3v5 := Lib.hid (HQ3d2.out.below hb HQ3d2.out.lt)
    have HQ4v5 := Lib.hid (HQ4d2.out.below hb HQ4d2.out.lt)
    clear HBd2 HMd2 HXd2 HQ1d2 HQ2d2 HQ3d2 HQ4d2
    have HR5v5 := Lib.hid hr
    clear hr hb
    have HQS5 : Hid (q1 < s5 ∧ q2 < s5 ∧ q3 < s5 ∧ q4 < s5) := Lib.hid (by have := HS5.out; omega)
    clear hlt1 hlt2 hlt3 hlt4
    have q0 := HQ1v5.out.cell 0; have q1' := HQ1v5.out.cell 1
    have z0 := HQ1v5.out.frozen 0; have z1 := HQ1v5.out.frozen 1
    have qlt := HQ1v5.out.lt
    simp at q0 q1'
    have hqW := HQW1.out
    have HBb5 : Hid (Below W.heap.size W ((v5.setCell ⟨q1, 0, none⟩ (.int .i64 MA.next)).setCell ⟨q1, 1, none⟩ (.slice A5 MA.nodes.length c5))) := Lib.hid ((HBv5.out.setCell (p := ⟨q1, 0, none⟩) hqW _).setCell (p := ⟨q1, 1, none⟩) hqW _)
    have HMb5 : Hid (Blk ((v5.setCell ⟨q1, 0, none⟩ (.int .i64 MA.next)).setCell ⟨q1, 1, none⟩ (.slice A5 MA.nodes.length c5)) w.heap.size 24 #[.int .i64 m.next, .slice A m.nodes.length c]) := Lib.hid ((HMv5.out.far (by show w.heap.size ≠ q1; omega) _).far (by show w.heap.size ≠ q1; omega) _)
    have HXb5 : Hid (Blk ((v5.setCell ⟨q1, 0, none⟩ (.int .i64 MA.next)).setCell ⟨q1, 1, none⟩ (.slice A5 MA.nodes.length c5)) p 24 #[.int .i64 m.next, .slice X m.nodes.length cx]) := Lib.hid ((HXv5.out.far (by have := HPW.out; show p ≠ q1; omega) _).far (by have := HPW.out; show p ≠ q1; omega) _)
    have HQ1b5 : Hid (Blk ((v5.setCell ⟨q1, 0, none⟩ (.int .i64 MA.next)).setCell ⟨q1, 1, none⟩ (.slice A5 MA.nodes.length c5)) q1 24 #[.int .i64 MA.next, .slice A5 MA.nodes.length c5]) := Lib.hid (by simpa using (HQ1v5.out.set_ 0 (.int .i64 MA.next)).set_ 1 (.slice A5 MA.nodes.length c5))
    have HQ2b5 := Lib.hid ((HQ2v5.out.far (p := ⟨q1, 0, none⟩) (Ne.symm HNQ12.out) (.int .i64 MA.next)).far (p := ⟨q1, 1, none⟩) (Ne.symm HNQ12.out) (.slice A5 MA.nodes.length c5))
    have HQ3b5 := Lib.hid ((HQ3v5.out.far (p := ⟨q1, 0, none⟩) (Ne.symm HNQ13.out) (.int .i64 MA.next)).far (p := ⟨q1, 1, none⟩) (Ne.symm HNQ13.out) (.slice A5 MA.nodes.length c5))
    have HQ4b5 := Lib.hid ((HQ4v5.out.far (p := ⟨q1, 0, none⟩) (Ne.symm HNQ14.out) (.int .i64 MA.next)).far (p := ⟨q1, 1, none⟩) (Ne.symm HNQ14.out) (.slice A5 MA.nodes.length c5))
    have HR5b5 : Hid (RowOf 7 ENode ((v5.setCell ⟨q1, 0, none⟩ (.int .i64 MA.next)).setCell ⟨q1, 1, none⟩ (.slice A5 MA.nodes.length c5)) (fun b => s5 ≤ b ∧ b < ((v5.setCell ⟨q1, 0, none⟩ (.int .i64 MA.next)).setCell ⟨q1, 1, none⟩ (.slice A5 MA.nodes.length c5)).heap.size) A5 MA.nodes) := Lib.hid (HR5v5.out.keep ENode.stays ((Keep.setc _ ⟨q1, 0, none⟩ _ (fun b hb => by have := HQS5.out; show b ≠ q1; omega)).trans (Keep.setc _ ⟨q1, 1, none⟩ _ (fun b hb => by have := HQS5.out; show b ≠ q1; omega))) (fun b hb => ⟨hb.1, by simpa using hb.2⟩))
    have HWE : Hid (∃ z, (v5.setCell ⟨q1, 0, none⟩ (.int .i64 MA.next)).setCell ⟨q1, 1, none⟩ (.slice A5 MA.nodes.length c5) = z) := Lib.hid ⟨_, rfl⟩
    go_upto_region 11 with fail
    obtain ⟨b5, hu⟩ := HWE.out
    rw [hu] at HBb5 HMb5 HXb5 HQ1b5 HQ2b5 HQ3b5 HQ4b5 HR5b5
    (try rw [hu])
    clear HWE hu q0 q1' z0 z1 qlt hqW
    clear HBv5 HMv5 HXv5 HQ1v5 HQ2v5 HQ3v5 HQ4v5 HR5v5
    have hlt1 := HQ1b5.out.lt; have hlt2 := HQ2b5.out.lt; have hlt3 := HQ3b5.out.lt; have hlt4 := HQ4b5.out.lt
    have m0 := HMb5.out.cell 0; have m1 := HMb5.out.cell 1
    have mlt := HMb5.out.lt
    simp at m0 m1
    go_wp2_with fail
    refine (aimR_any A c m b5 (fun b => b < w.heap.size) (HRM.out _ HBb5.out).1 (HRM.out _ HBb5.out).2 (fun x hx => (HZ.out x hx).1) (fun x hx => (HZ.out x hx).2) (by omega) id hid nm hns tg htg).mono ?_
    rintro _ v6 ⟨⟨v, rfl, hf⟩, hb⟩
    rw [HEA.out] at hf
    obtain ⟨A6, c6, hv, hr, hl6⟩ := set_got HCA.out hf
    rw [HMOA.out] at hv hr hl6
    subst hv
    obtain ⟨s6, hs6⟩ : ∃ s, b5.heap.size = s := ⟨_, rfl⟩
    have HS6 := Lib.hid hs6
    rw [hs6] at hr
    clear hs6 hf
    clear m0 m1 mlt
    have HBv6 := Lib.hid (HBb5.out.trans (hb.mono HBb5.out.size))
    have HMv6 := Lib.hid (HMb5.out.below hb HMb5.out.lt)
    have HXv6 := Lib.hid (HXb5.out.below hb HXb5.out.lt)
    have HQ1v6 := Lib.hid (HQ1b5.out.below hb HQ1b5.out.lt)
    have HQ2v6 := Lib.hid (HQ2b5.out.below hb HQ2b5.out.lt)
    have HQ3v6 := Lib.hid (HQ3b5.out.below hb HQ3b5.out.lt)
    have HQ4v6 := Lib.hid (HQ4b5.out.below hb HQ4b5.out.lt)
    have HR5v6 := Lib.hid (HR5b5.out.keep ENode.stays (Keep.below hb (fun b hb => hb.2)) (F' := fun b => s5 ≤ b ∧ b < v6.heap.size) (fun b hx => ⟨hx.1, Nat.lt_of_lt_of_le hx.2 hb.size⟩))
    clear HBb5 HMb5 HXb5 HQ1b5 HQ2b5 HQ3b5 HQ4b5 HR5b5
    have HR6v6 := Lib.hid hr
    clear hr hb
    have HQS6 : Hid (q1 < s6 ∧ q2 < s6 ∧ q3 < s6 ∧ q4 < s6) := Lib.hid (by have := HS6.out; omega)
    clear hlt1 hlt2 hlt3 hlt4
    have q0 := HQ2v6.out.cell 0; have q1' := HQ2v6.out.cell 1
    have z0 := HQ2v6.out.frozen 0; have z1 := HQ2v6.out.frozen 1
    have qlt := HQ2v6.out.lt
    simp at q0 q1'
    have hqW := HQW2.out
    have HBb6 : Hid (Below W.heap.size W ((v6.setCell ⟨q2, 0, none⟩ (.int .i64 MA.next)).setCell ⟨q2, 1, none⟩ (.slice A6 MA.nodes.length c6))) := Lib.hid ((HBv6.out.setCell (p := ⟨q2, 0, none⟩) hqW _).setCell (p := ⟨q2, 1, none⟩) hqW _)
    have HMb6 : Hid (Blk ((v6.setCell ⟨q2, 0, none⟩ (.int .i64 MA.next)).setCell ⟨q2, 1, none⟩ (.slice A6 MA.nodes.length c6)) w.heap.size 24 #[.int .i64 m.next, .slice A m.nodes.length c]) := Lib.hid ((HMv6.out.far (by show w.heap.size ≠ q2; omega) _).far (by show w.heap.size ≠ q2; omega) _)
    have HXb6 : Hid (Blk ((v6.setCell ⟨q2, 0, none⟩ (.int .i64 MA.next)).setCell ⟨q2, 1, none⟩ (.slice A6 MA.nodes.length c6)) p 24 #[.int .i64 m.next, .slice X m.nodes.length cx]) := Lib.hid ((HXv6.out.far (by have := HPW.out; show p ≠ q2; omega) _).far (by have := HPW.out; show p ≠ q2; omega) _)
    have HQ2b6 : Hid (Blk ((v6.setCell ⟨q2, 0, none⟩ (.int .i64 MA.next)).setCell ⟨q2, 1, none⟩ (.slice A6 MA.nodes.length c6)) q2 24 #[.int .i64 MA.next, .slice A6 MA.nodes.length c6]) := Lib.hid (by simpa using (HQ2v6.out.set_ 0 (.int .i64 MA.next)).set_ 1 (.slice A6 MA.nodes.length c6))
    have HQ1b6 := Lib.hid ((HQ1v6.out.far (p := ⟨q2, 0, none⟩) (Ne.symm HNQ12.out.symm) (.int .i64 MA.next)).far (p := ⟨q2, 1, none⟩) (Ne.symm HNQ12.out.symm) (.slice A6 MA.nodes.length c6))
    have HQ3b6 := Lib.hid ((HQ3v6.out.far (p := ⟨q2, 0, none⟩) (Ne.symm HNQ23.out) (.int .i64 MA.next)).far (p := ⟨q2, 1, none⟩) (Ne.symm HNQ23.out) (.slice A6 MA.nodes.length c6))
    have HQ4b6 := Lib.hid ((HQ4v6.out.far (p := ⟨q2, 0, none⟩) (Ne.symm HNQ24.out) (.int .i64 MA.next)).far (p := ⟨q2, 1, none⟩) (Ne.symm HNQ24.out) (.slice A6 MA.nodes.length c6))
    have HR5b6 : Hid (RowOf 7 ENode ((v6.setCell ⟨q2, 0, none⟩ (.int .i64 MA.next)).setCell ⟨q2, 1, none⟩ (.slice A6 MA.nodes.length c6)) (fun b => s5 ≤ b ∧ b < ((v6.setCell ⟨q2, 0, none⟩ (.int .i64 MA.next)).setCell ⟨q2, 1, none⟩ (.slice A6 MA.nodes.length c6)).heap.size) A5 MA.nodes) := Lib.hid (HR5v6.out.keep ENode.stays ((Keep.setc _ ⟨q2, 0, none⟩ _ (fun b hb => by have := HQS5.out; show b ≠ q2; omega)).trans (Keep.setc _ ⟨q2, 1, none⟩ _ (fun b hb => by have := HQS5.out; show b ≠ q2; omega))) (fun b hb => ⟨hb.1, by simpa using hb.2⟩))
    have HR6b6 : Hid (RowOf 7 ENode ((v6.setCell ⟨q2, 0, none⟩ (.int .i64 MA.next)).setCell ⟨q2, 1, none⟩ (.slice A6 MA.nodes.length c6)) (fun b => s6 ≤ b ∧ b < ((v6.setCell ⟨q2, 0, none⟩ (.int .i64 MA.next)).setCell ⟨q2, 1, none⟩ (.slice A6 MA.nodes.length c6)).heap.size) A6 MA.nodes) := Lib.hid (HR6v6.out.keep ENode.stays ((Keep.setc _ ⟨q2, 0, none⟩ _ (fun b hb => by have := HQS6.out; show b ≠ q2; omega)).trans (Keep.setc _ ⟨q2, 1, none⟩ _ (fun b hb => by have := HQS6.out; show b ≠ q2; omega))) (fun b hb => ⟨hb.1, by simpa using hb.2⟩))
    have HWE : Hid (∃ z, (v6.setCell ⟨q2, 0, none⟩ (.int .i64 MA.next)).setCell ⟨q2, 1, none⟩ (.slice A6 MA.nodes.length c6) = z) := Lib.hid ⟨_, rfl⟩
    go_upto_region 12 with fail
    obtain ⟨b6, hu⟩ := HWE.out
    rw [hu] at HBb6 HMb6 HXb6 HQ1b6 HQ2b6 HQ3b6 HQ4b6 HR5b6 HR6b6
    (try rw [hu])
    clear HWE hu q0 q1' z0 z1 qlt hqW
    clear HBv6 HMv6 HXv6 HQ1v6 HQ2v6 HQ3v6 HQ4v6 HR5v6 HR6v6
    have hlt1 := HQ1b6.out.lt; have hlt2 := HQ2b6.out.lt; have hlt3 := HQ3b6.out.lt; have hlt4 := HQ4b6.out.lt
    have x0 := HXb6.out.cell 0; have x1 := HXb6.out.cell 1
    have xlt := HXb6.out.lt
    simp at x0 x1
    go_wp2_with fail
    refine (looseA_any X cx m b6 (fun b => b < p) (HFX.out _ HBb6.out) (HRXr.out _ HBb6.out) (fun x hx => (HZ.out x hx).1) (fun x hx => (HZ.out x hx).2) (by omega) id hid nm hns).mono ?_
    rintro _ v7 ⟨⟨v, rfl, hf⟩, hb⟩
    rw [HEL.out] at hf
    obtain ⟨A7, c7, hv, hr, hl7⟩ := set_got HCL.out hf
    rw [HMOL.out] at hv hr hl7
    subst hv
    obtain ⟨s7, hs7⟩ : ∃ s, b6.heap.size = s := ⟨_, rfl⟩
    have HS7 := Lib.hid hs7
    rw [hs7] at hr
    clear hs7 hf
    clear x0 x1 xlt
    have HBv7 := Lib.hid (HBb6.out.trans (hb.mono HBb6.out.size))
    have HMv7 := Lib.hid (HMb6.out.below hb HMb6.out.lt)
    have HXv7 := Lib.hid (HXb6.out.below hb HXb6.out.lt)
    have HQ1v7 := Lib.hid (HQ1b6.out.below hb HQ1b6.out.lt)
    have HQ2v7 := Lib.hid (HQ2b6.out.below hb HQ2b6.out.lt)
    have HQ3v7 := Lib.hid (HQ3b6.out.below hb HQ3b6.out.lt)
    have HQ4v7 := Lib.hid (HQ4b6.out.below hb HQ4b6.out.lt)
    have HR5v7 := Lib.hid (HR5b6.out.keep ENode.stays (Keep.below hb (fun b hb => hb.2)) (F' := fun b => s5 ≤ b ∧ b < v7.heap.size) (fun b hx => ⟨hx.1, Nat.lt_of_lt_of_le hx.2 hb.size⟩))
    have HR6v7 := Lib.hid (HR6b6.out.keep ENode.stays (Keep.below hb (fun b hb => hb.2)) (F' := fun b => s6 ≤ b ∧ b < v7.heap.size) (fun b hx => ⟨hx.1, Nat.lt_of_lt_of_le hx.2 hb.size⟩))
    clear HBb6 HMb6 HXb6 HQ1b6 HQ2b6 HQ3b6 HQ4b6 HR5b6 HR6b6
    have HR7v7 := Lib.hid hr
    clear hr hb
    have HQS7 : Hid (q1 < s7 ∧ q2 < s7 ∧ q3 < s7 ∧ q4 < s7) := Lib.hid (by have := HS7.out; omega)
    clear hlt1 hlt2 hlt3 hlt4
    have q0 := HQ3v7.out.cell 0; have q1' := HQ3v7.out.cell 1
    have z0 := HQ3v7.out.frozen 0; have z1 := HQ3v7.out.frozen 1
    have qlt := HQ3v7.out.lt
    simp at q0 q1'
    have hqW := HQW3.out
    have HBb7 : Hid (Below W.heap.size W ((v7.setCell ⟨q3, 0, none⟩ (.int .i64 ML.next)).setCell ⟨q3, 1, none⟩ (.slice A7 ML.nodes.length c7))) := Lib.hid ((HBv7.out.setCell (p := ⟨q3, 0, none⟩) hqW _).setCell (p := ⟨q3, 1, none⟩) hqW _)
    have HMb7 : Hid (Blk ((v7.setCell ⟨q3, 0, none⟩ (.int .i64 ML.next)).setCell ⟨q3, 1, none⟩ (.slice A7 ML.nodes.length c7)) w.heap.size 24 #[.int .i64 m.next, .slice A m.nodes.length c]) := Lib.hid ((HMv7.out.far (by show w.heap.size ≠ q3; omega) _).far (by show w.heap.size ≠ q3; omega) _)
    have HXb7 : Hid (Blk ((v7.setCell ⟨q3, 0, none⟩ (.int .i64 ML.next)).setCell ⟨q3, 1, none⟩ (.slice A7 ML.nodes.length c7)) p 24 #[.int .i64 m.next, .slice X m.nodes.length cx]) := Lib.hid ((HXv7.out.far (by have := HPW.out; show p ≠ q3; omega) _).far (by have := HPW.out; show p ≠ q3; omega) _)
    have HQ3b7 : Hid (Blk ((v7.setCell ⟨q3, 0, none⟩ (.int .i64 ML.next)).setCell ⟨q3, 1, none⟩ (.slice A7 ML.nodes.length c7)) q3 24 #[.int .i64 ML.next, .slice A7 ML.nodes.length c7]) := Lib.hid (by simpa using (HQ3v7.out.set_ 0 (.int .i64 ML.next)).set_ 1 (.slice A7 ML.nodes.length c7))
    have HQ1b7 := Lib.hid ((HQ1v7.out.far (p := ⟨q3, 0, none⟩) (Ne.symm HNQ13.out.symm) (.int .i64 ML.next)).far (p := ⟨q3, 1, none⟩) (Ne.symm HNQ13.out.symm) (.slice A7 ML.nodes.length c7))
    have HQ2b7 := Lib.hid ((HQ2v7.out.far (p := ⟨q3, 0, none⟩) (Ne.symm HNQ23.out.symm) (.int .i64 ML.next)).far (p := ⟨q3, 1, none⟩) (Ne.symm HNQ23.out.symm) (.slice A7 ML.nodes.length c7))
    have HQ4b7 := Lib.hid ((HQ4v7.out.far (p := ⟨q3, 0, none⟩) (Ne.symm HNQ34.out) (.int .i64 ML.next)).far (p := ⟨q3, 1, none⟩) (Ne.symm HNQ34.out) (.slice A7 ML.nodes.length c7))
    have HR5b7 : Hid (RowOf 7 ENode ((v7.setCell ⟨q3, 0, none⟩ (.int .i64 ML.next)).setCell ⟨q3, 1, none⟩ (.slice A7 ML.nodes.length c7)) (fun b => s5 ≤ b ∧ b < ((v7.setCell ⟨q3, 0, none⟩ (.int .i64 ML.next)).setCell ⟨q3, 1, none⟩ (.slice A7 ML.nodes.length c7)).heap.size) A5 MA.nodes) := Lib.hid (HR5v7.out.keep ENode.stays ((Keep.setc _ ⟨q3, 0, none⟩ _ (fun b hb => by have := HQS5.out; show b ≠ q3; omega)).trans (Keep.setc _ ⟨q3, 1, none⟩ _ (fun b hb => by have := HQS5.out; show b ≠ q3; omega))) (fun b hb => ⟨hb.1, by simpa using hb.2⟩))
    have HR6b7 : Hid (RowOf 7 ENode ((v7.setCell ⟨q3, 0, none⟩ (.int .i64 ML.next)).setCell ⟨q3, 1, none⟩ (.slice A7 ML.nodes.length c7)) (fun b => s6 ≤ b ∧ b < ((v7.setCell ⟨q3, 0, none⟩ (.int .i64 ML.next)).setCell ⟨q3, 1, none⟩ (.slice A7 ML.nodes.length c7)).heap.size) A6 MA.nodes) := Lib.hid (HR6v7.out.keep ENode.stays ((Keep.setc _ ⟨q3, 0, none⟩ _ (fun b hb => by have := HQS6.out; show b ≠ q3; omega)).trans (Keep.setc _ ⟨q3, 1, none⟩ _ (fun b hb => by have := HQS6.out; show b ≠ q3; omega))) (fun b hb => ⟨hb.1, by simpa using hb.2⟩))
    have HR7b7 : Hid (RowOf 7 ENode ((v7.setCell ⟨q3, 0, none⟩ (.int .i64 ML.next)).setCell ⟨q3, 1, none⟩ (.slice A7 ML.nodes.length c7)) (fun b => s7 ≤ b ∧ b < ((v7.setCell ⟨q3, 0, none⟩ (.int .i64 ML.next)).setCell ⟨q3, 1, none⟩ (.slice A7 ML.nodes.length c7)).heap.size) A7 ML.nodes) := Lib.hid (HR7v7.out.keep ENode.stays ((Keep.setc _ ⟨q3, 0, none⟩ _ (fun b hb => by have := HQS7.out; show b ≠ q3; omega)).trans (Keep.setc _ ⟨q3, 1, none⟩ _ (fun b hb => by have := HQS7.out; show b ≠ q3; omega))) (fun b hb => ⟨hb.1, by simpa using hb.2⟩))
    have HWE : Hid (∃ z, (v7.setCell ⟨q3, 0, none⟩ (.int .i64 ML.next)).setCell ⟨q3, 1, none⟩ (.slice A7 ML.nodes.length c7) = z) := Lib.hid ⟨_, rfl⟩
    go_upto_region 13 with fail
    obtain ⟨b7, hu⟩ := HWE.out
    rw [hu] at HBb7 HMb7 HXb7 HQ1b7 HQ2b7 HQ3b7 HQ4b7 HR5b7 HR6b7 HR7b7
    (try rw [hu])
    clear HWE hu q0 q1' z0 z1 qlt hqW
    clear HBv7 HMv7 HXv7 HQ1v7 HQ2v7 HQ3v7 HQ4v7 HR5v7 HR6v7 HR7v7
    have hlt1 := HQ1b7.out.lt; have hlt2 := HQ2b7.out.lt; have hlt3 := HQ3b7.out.lt; have hlt4 := HQ4b7.out.lt
    have m0 := HMb7.out.cell 0; have m1 := HMb7.out.cell 1
    have mlt := HMb7.out.lt
    simp at m0 m1
    go_wp2_with fail
    refine (looseR_any A c m b7 (fun b => b < w.heap.size) (HRM.out _ HBb7.out).1 (HRM.out _ HBb7.out).2 (fun x hx => (HZ.out x hx).1) (fun x hx => (HZ.out x hx).2) (by omega) id hid nm hns).mono ?_
    rintro _ v8 ⟨⟨v, rfl, hf⟩, hb⟩
    rw [HEL.out] at hf
    obtain ⟨A8, c8, hv, hr, hl8⟩ := set_got HCL.out hf
    rw [HMOL.out] at hv hr hl8
    subst hv
    obtain ⟨s8, hs8⟩ : ∃ s, b7.heap.size = s := ⟨_, rfl⟩
    have HS8 := Lib.hid hs8
    rw [hs8] at hr
    clear hs8 hf
    clear m0 m1 mlt
    have HBv8 := Lib.hid (HBb7.out.trans (hb.mono HBb7.out.size))
    have HMv8 := Lib.hid (HMb7.out.below hb HMb7.out.lt)
    have HXv8 := Lib.hid (HXb7.out.below hb HXb7.out.lt)
    have HQ1v8 := Lib.hid (HQ1b7.out.below hb HQ1b7.out.lt)
    have HQ2v8 := Lib.hid (HQ2b7.out.below hb HQ2b7.out.lt)
    have HQ3v8 := Lib.hid (HQ3b7.out.below hb HQ3b7.out.lt)
    have HQ4v8 := Lib.hid (HQ4b7.out.below hb HQ4b7.out.lt)
    have HR5v8 := Lib.hid (HR5b7.out.keep ENode.stays (Keep.below hb (fun b hb => hb.2)) (F' := fun b => s5 ≤ b ∧ b < v8.heap.size) (fun b hx => ⟨hx.1, Nat.lt_of_lt_of_le hx.2 hb.size⟩))
    have HR6v8 := Lib.hid (HR6b7.out.keep ENode.stays (Keep.below hb (fun b hb => hb.2)) (F' := fun b => s6 ≤ b ∧ b < v8.heap.size) (fun b hx => ⟨hx.1, Nat.lt_of_lt_of_le hx.2 hb.size⟩))
    have HR7v8 := Lib.hid (HR7b7.out.keep ENode.stays (Keep.below hb (fun b hb => hb.2)) (F' := fun b => s7 ≤ b ∧ b < v8.heap.size) (fun b hx => ⟨hx.1, Nat.lt_of_lt_of_le hx.2 hb.size⟩))
    clear HBb7 HMb7 HXb7 HQ1b7 HQ2b7 HQ3b7 HQ4b7 HR5b7 HR6b7 HR7b7
    have HR8v8 := Lib.hid hr
    clear hr hb
    have HQS8 : Hid (q1 < s8 ∧ q2 < s8 ∧ q3 < s8 ∧ q4 < s8) := Lib.hid (by have := HS8.out; omega)
    clear hlt1 hlt2 hlt3 hlt4
    have q0 := HQ4v8.out.cell 0; have q1' := HQ4v8.out.cell 1
    have z0 := HQ4v8.out.frozen 0; have z1 := HQ4v8.out.frozen 1
    have qlt := HQ4v8.out.lt
    simp at q0 q1'
    have hqW := HQW4.out
    have HBb8 : Hid (Below W.heap.size W ((v8.setCell ⟨q4, 0, none⟩ (.int .i64 ML.next)).setCell ⟨q4, 1, none⟩ (.slice A8 ML.nodes.length c8))) := Lib.hid ((HBv8.out.setCell (p := ⟨q4, 0, none⟩) hqW _).setCell (p := ⟨q4, 1, none⟩) hqW _)
    have HMb8 : Hid (Blk ((v8.setCell ⟨q4, 0, none⟩ (.int .i64 ML.next)).setCell ⟨q4, 1, none⟩ (.slice A8 ML.nodes.length c8)) w.heap.size 24 #[.int .i64 m.next, .slice A m.nodes.length c]) := Lib.hid ((HMv8.out.far (by show w.heap.size ≠ q4; omega) _).far (by show w.heap.size ≠ q4; omega) _)
    have HXb8 : Hid (Blk ((v8.setCell ⟨q4, 0, none⟩ (.int .i64 ML.next)).setCell ⟨q4, 1, none⟩ (.slice A8 ML.nodes.length c8)) p 24 #[.int .i64 m.next, .slice X m.nodes.length cx]) := Lib.hid ((HXv8.out.far (by have := HPW.out; show p ≠ q4; omega) _).far (by have := HPW.out; show p ≠ q4; omega) _)
    have HQ4b8 : Hid (Blk ((v8.setCell ⟨q4, 0, none⟩ (.int .i64 ML.next)).setCell ⟨q4, 1, none⟩ (.slice A8 ML.nodes.length c8)) q4 24 #[.int .i64 ML.next, .slice A8 ML.nodes.length c8]) := Lib.hid (by simpa using (HQ4v8.out.set_ 0 (.int .i64 ML.next)).set_ 1 (.slice A8 ML.nodes.length c8))
    have HQ1b8 := Lib.hid ((HQ1v8.out.far (p := ⟨q4, 0, none⟩) (Ne.symm HNQ14.out.symm) (.int .i64 ML.next)).far (p := ⟨q4, 1, none⟩) (Ne.symm HNQ14.out.symm) (.slice A8 ML.nodes.length c8))
    have HQ2b8 := Lib.hid ((HQ2v8.out.far (p := ⟨q4, 0, none⟩) (Ne.symm HNQ24.out.symm) (.int .i64 ML.next)).far (p := ⟨q4, 1, none⟩) (Ne.symm HNQ24.out.symm) (.slice A8 ML.nodes.length c8))
    have HQ3b8 := Lib.hid ((HQ3v8.out.far (p := ⟨q4, 0, none⟩) (Ne.symm HNQ34.out.symm) (.int .i64 ML.next)).far (p := ⟨q4, 1, none⟩) (Ne.symm HNQ34.out.symm) (.slice A8 ML.nodes.length c8))
    have HR5b8 : Hid (RowOf 7 ENode ((v8.setCell ⟨q4, 0, none⟩ (.int .i64 ML.next)).setCell ⟨q4, 1, none⟩ (.slice A8 ML.nodes.length c8)) (fun b => s5 ≤ b ∧ b < ((v8.setCell ⟨q4, 0, none⟩ (.int .i64 ML.next)).setCell ⟨q4, 1, none⟩ (.slice A8 ML.nodes.length c8)).heap.size) A5 MA.nodes) := Lib.hid (HR5v8.out.keep ENode.stays ((Keep.setc _ ⟨q4, 0, none⟩ _ (fun b hb => by have := HQS5.out; show b ≠ q4; omega)).trans (Keep.setc _ ⟨q4, 1, none⟩ _ (fun b hb => by have := HQS5.out; show b ≠ q4; omega))) (fun b hb => ⟨hb.1, by simpa using hb.2⟩))
    have HR6b8 : Hid (RowOf 7 ENode ((v8.setCell ⟨q4, 0, none⟩ (.int .i64 ML.next)).setCell ⟨q4, 1, none⟩ (.slice A8 ML.nodes.length c8)) (fun b => s6 ≤ b ∧ b < ((v8.setCell ⟨q4, 0, none⟩ (.int .i64 ML.next)).setCell ⟨q4, 1, none⟩ (.slice A8 ML.nodes.length c8)).heap.size) A6 MA.nodes) := Lib.hid (HR6v8.out.keep ENode.stays ((Keep.setc _ ⟨q4, 0, none⟩ _ (fun b hb => by have := HQS6.out; show b ≠ q4; omega)).trans (Keep.setc _ ⟨q4, 1, none⟩ _ (fun b hb => by have := HQS6.out; show b ≠ q4; omega))) (fun b hb => ⟨hb.1, by simpa using hb.2⟩))
    have HR7b8 : Hid (RowOf 7 ENode ((v8.setCell ⟨q4, 0, none⟩ (.int .i64 ML.next)).setCell ⟨q4, 1, none⟩ (.slice A8 ML.nodes.length c8)) (fun b => s7 ≤ b ∧ b < ((v8.setCell ⟨q4, 0, none⟩ (.int .i64 ML.next)).setCell ⟨q4, 1, none⟩ (.slice A8 ML.nodes.length c8)).heap.size) A7 ML.nodes) := Lib.hid (HR7v8.out.keep ENode.stays ((Keep.setc _ ⟨q4, 0, none⟩ _ (fun b hb => by have := HQS7.out; show b ≠ q4; omega)).trans (Keep.setc _ ⟨q4, 1, none⟩ _ (fun b hb => by have := HQS7.out; show b ≠ q4; omega))) (fun b hb => ⟨hb.1, by simpa using hb.2⟩))
    have HR8b8 : Hid (RowOf 7 ENode ((v8.setCell ⟨q4, 0, none⟩ (.int .i64 ML.next)).setCell ⟨q4, 1, none⟩ (.slice A8 ML.nodes.length c8)) (fun b => s8 ≤ b ∧ b < ((v8.setCell ⟨q4, 0, none⟩ (.int .i64 ML.next)).setCell ⟨q4, 1, none⟩ (.slice A8 ML.nodes.length c8)).heap.size) A8 ML.nodes) := Lib.hid (HR8v8.out.keep ENode.stays ((Keep.setc _ ⟨q4, 0, none⟩ _ (fun b hb => by have := HQS8.out; show b ≠ q4; omega)).trans (Keep.setc _ ⟨q4, 1, none⟩ _ (fun b hb => by have := HQS8.out; show b ≠ q4; omega))) (fun b hb => ⟨hb.1, by simpa using hb.2⟩))
    have HWE : Hid (∃ z, (v8.setCell ⟨q4, 0, none⟩ (.int .i64 ML.next)).setCell ⟨q4, 1, none⟩ (.slice A8 ML.nodes.length c8) = z) := Lib.hid ⟨_, rfl⟩
    go_upto_region 14 with fail
    obtain ⟨b8, hu⟩ := HWE.out
    rw [hu] at HBb8 HMb8 HXb8 HQ1b8 HQ2b8 HQ3b8 HQ4b8 HR5b8 HR6b8 HR7b8 HR8b8
    (try rw [hu])
    clear HWE hu q0 q1' z0 z1 qlt hqW
    clear HBv8 HMv8 HXv8 HQ1v8 HQ2v8 HQ3v8 HQ4v8 HR5v8 HR6v8 HR7v8 HR8v8
    have gA : (EA == EA) = true := beq_self_eq_true EA
    have gL : (EL == EL) = true := beq_self_eq_true EL
    have f0 := HQ1b8.out.cell 0; have f1 := HQ1b8.out.cell 1
    have flt := HQ1b8.out.lt
    have g0 := HQ2b8.out.cell 0; have g1 := HQ2b8.out.cell 1
    have glt := HQ2b8.out.lt
    simp at f0 f1 g0 g1
    go_wp2_with fail
    refine (res_is (eqB_yes (rfl : MA = MA)) (same_any A5 A6 c5 c6 MA MA b8 (fun b => s5 ≤ b ∧ b < b8.heap.size) (fun b => s6 ≤ b ∧ b < b8.heap.size) (fun _ h => h.2) (fun _ h => h.2) HR5b8.out HR6b8.out hl5)).mono ?_
    rintro _ d3 ⟨rfl, hb⟩
    clear f0 f1 g0 g1 flt glt
    have HBd3 := Lib.hid (HBb8.out.trans (hb.mono HBb8.out.size))
    have HMd3 := Lib.hid (HMb8.out.below hb HMb8.out.lt)
    have HXd3 := Lib.hid (HXb8.out.below hb HXb8.out.lt)
    have HQ1d3 := Lib.hid (HQ1b8.out.below hb HQ1b8.out.lt)
    have HQ2d3 := Lib.hid (HQ2b8.out.below hb HQ2b8.out.lt)
    have HQ3d3 := Lib.hid (HQ3b8.out.below hb HQ3b8.out.lt)
    have HQ4d3 := Lib.hid (HQ4b8.out.below hb HQ4b8.out.lt)
    have HR5d3 := Lib.hid (HR5b8.out.keep ENode.stays (Keep.below hb (fun b hb => hb.2)) (F' := fun b => s5 ≤ b ∧ b < d3.heap.size) (fun b hx => ⟨hx.1, Nat.lt_of_lt_of_le hx.2 hb.size⟩))
    have HR6d3 := Lib.hid (HR6b8.out.keep ENode.stays (Keep.below hb (fun b hb => hb.2)) (F' := fun b => s6 ≤ b ∧ b < d3.heap.size) (fun b hx => ⟨hx.1, Nat.lt_of_lt_of_le hx.2 hb.size⟩))
    have HR7d3 := Lib.hid (HR7b8.out.keep ENode.stays (Keep.below hb (fun b hb => hb.2)) (F' := fun b => s7 ≤ b ∧ b < d3.heap.size) (fun b hx => ⟨hx.1, Nat.lt_of_lt_of_le hx.2 hb.size⟩))
    have HR8d3 := Lib.hid (HR8b8.out.keep ENode.stays (Keep.below hb (fun b hb => hb.2)) (F' := fun b => s8 ≤ b ∧ b < d3.heap.size) (fun b hx => ⟨hx.1, Nat.lt_of_lt_of_le hx.2 hb.size⟩))
    clear HBb8 HMb8 HXb8 HQ1b8 HQ2b8 HQ3b8 HQ4b8 HR5b8 HR6b8 HR7b8 HR8b8
    clear hb
    have f0 := HQ3d3.out.cell 0; have f1 := HQ3d3.out.cell 1
    have flt := HQ3d3.out.lt
    have g0 := HQ4d3.out.cell 0; have g1 := HQ4d3.out.cell 1
    have glt := HQ4d3.out.lt
    simp at f0 f1 g0 g1
    go_wp2_with fail
    refine (res_is (eqB_yes (rfl : ML = ML)) (same_any A7 A8 c7 c8 ML ML d3 (fun b => s7 ≤ b ∧ b < d3.heap.size) (fun b => s8 ≤ b ∧ b < d3.heap.size) (fun _ h => h.2) (fun _ h => h.2) HR7d3.out HR8d3.out hl7)).mono ?_
    rintro _ d4 ⟨rfl, hb⟩
    clear f0 f1 g0 g1 flt glt
    have HBd4 := Lib.hid (HBd3.out.trans (hb.mono HBd3.out.size))
    have HMd4 := Lib.hid (HMd3.out.below hb HMd3.out.lt)
    have HXd4 := Lib.hid (HXd3.out.below hb HXd3.out.lt)
    have HQ1d4 := Lib.hid (HQ1d3.out.below hb HQ1d3.out.lt)
    have HQ2d4 := Lib.hid (HQ2d3.out.below hb HQ2d3.out.lt)
    have HQ3d4 := Lib.hid (HQ3d3.out.below hb HQ3d3.out.lt)
    have HQ4d4 := Lib.hid (HQ4d3.out.below hb HQ4d3.out.lt)
    have HR5d4 := Lib.hid (HR5d3.out.keep ENode.stays (Keep.below hb (fun b hb => hb.2)) (F' := fun b => s5 ≤ b ∧ b < d4.heap.size) (fun b hx => ⟨hx.1, Nat.lt_of_lt_of_le hx.2 hb.size⟩))
    have HR6d4 := Lib.hid (HR6d3.out.keep ENode.stays (Keep.below hb (fun b hb => hb.2)) (F' := fun b => s6 ≤ b ∧ b < d4.heap.size) (fun b hx => ⟨hx.1, Nat.lt_of_lt_of_le hx.2 hb.size⟩))
    have HR7d4 := Lib.hid (HR7d3.out.keep ENode.stays (Keep.below hb (fun b hb => hb.2)) (F' := fun b => s7 ≤ b ∧ b < d4.heap.size) (fun b hx => ⟨hx.1, Nat.lt_of_lt_of_le hx.2 hb.size⟩))
    have HR8d4 := Lib.hid (HR8d3.out.keep ENode.stays (Keep.below hb (fun b hb => hb.2)) (F' := fun b => s8 ≤ b ∧ b < d4.heap.size) (fun b hx => ⟨hx.1, Nat.lt_of_lt_of_le hx.2 hb.size⟩))
    clear HBd3 HMd3 HXd3 HQ1d3 HQ2d3 HQ3d3 HQ4d3 HR5d3 HR6d3 HR7d3 HR8d3
    clear hb
    have x0 := HXd4.out.cell 0; have x1 := HXd4.out.cell 1
    have xlt := HXd4.out.lt
    have m0 := HMd4.out.cell 0; have m1 := HMd4.out.cell 1
    have mlt := HMd4.out.lt
    simp at x0 x1 m0 m1
    go_wp2_with fail
    refine (kept_any _ _ m d4 (fun b => b < p) (fun b => b < w.heap.size) (HFX.out _ HBd4.out) (HRM.out _ HBd4.out).1 (HLW.out.keep (Keep.below HBd4.out hFp) (fun _ h => h)) (HMA.out.keep (Keep.below (HBW.out.trans (HBd4.out.mono HBW.out.size)) (fun _ h => h)) (fun _ h => h)) hln).mono ?_
    rintro _ s9 ⟨rfl, hb⟩
    have HEND := Lib.hid (HBW.out.trans ((HBd4.out.trans (hb.mono HBd4.out.size)).mono HBW.out.size))
    clear hb
    clear x0 x1 m0 m1 xlt mlt
    go_wp2
    go_ret
    exact ⟨rfl, HEND.out⟩
end Go.Proofs.Ytmafhaadcjgcbaa
end
section
/- PROVED: ArenaSets answers true for every input, and each argument reads afterwards as it read before. No condition. -/
namespace Go.Proofs.Ytmafhaadcjgcbaa
open Go.ChangeShapes Go.WideShapes Go.ChangeAt Go.RowKit Go.Deep
open Go.ChangeMaps (open_string shut_string)

theorem Try.own : ownKnob Try.prog.godebug = none := by kernel_rfl
theorem Try.laidOut : laidOutB Try.prog = true := by kernel_rfl

set_option maxRecDepth 100000 in
theorem sets_lifted (os : Os) (started : os.Started) (H : Type) (enc : TypeId × Value → H) :
    ReturnsInHanded {} Try.checked os 6 .any (Rows.arenaSetsSpec.pre6 enc Try.prog Try.f6 Rows.arenaSetsRow.domain false) (Rows.arenaSetsSpec.post enc Try.prog Try.f6 false true false false) := by
  refine returnsInHanded_of_change_shaped (C := Try.checked) Try.own started (by kernel_rfl) Try.func6
    (ChangeSpec.witness6 (enc := enc) (C := Try.checked) false ⟨#[], #[.agg #[.int .i64 0, .slice none 0 0], .int .i64 0, .string ByteArray.empty, .string ByteArray.empty, .int .i64 0], []⟩ 8 (by kernel_rfl) (by kernel_rfl) (by kernel_rfl) (by kernel_rfl)) ?_
  intro W base args ds gs before hval0 hW hcnd hwt _ _
  have hval : ∀ (j : Nat) t v, Try.f6.params[j]? = some t → args[j]? = some v → Value.okWide Try.prog W .any base t v := hval0
  have hW' := hW
  obtain ⟨p, q, hA0, hV, rfl, hfz, hnd⟩ := hW
  have hA : DataW.TrodAll enc Try.prog W 0 (fun _ => true) true Try.f6.params.toList args.toList ds p := hA0
  have hwt : (DataW.weightsEach Try.prog (Try.f6.params.toList ++ Rows.arenaSetsSpec.plain.varTypes Try.prog) (ds ++ gs)).all (· ≤ reachBytes) = true := hwt
  rw [Try.params6] at hA hval hwt
  obtain ⟨v0, v1, v2, v3, v4, d0, d1, d2, d3, d4, p0, p1, p2, p3, p4, rfl, rfl, rfl, h0, h1, h2, h3, h4⟩ := trodAll_five hA
  obtain ⟨rfl, rfl⟩ := trodVars_none hV
  obtain ⟨n, rfl, rfl, rfl, w1⟩ := open_int Try.underlying3 (hval 1 3 v1 rfl rfl) h1
  obtain ⟨s, rfl, rfl, rfl, w2⟩ := open_string Try.underlying9 (hval 2 9 v2 rfl rfl) h2
  obtain ⟨s3, rfl, rfl, rfl, w3⟩ := open_string Try.underlying9 (hval 3 9 v3 rfl rfl) h3
  obtain ⟨n4, rfl, rfl, rfl, w4⟩ := open_int Try.underlying3 (hval 4 3 v4 rfl rfl) h4
  obtain ⟨a, ha, hza, _⟩ := model_arg (hval 0 24 v0 rfl rfl) h0 (WtOK.args hwt (i := 0) rfl rfl)
  clear hA0 hval0
  simp only [List.append_nil] at hW'
  have hlt : ∀ x ∈ p0, x.block < W.heap.size := fun x hx => hW'.lt x (by simpa using hx)
  refine (sets_any v0 a n s s3 n4 W ha (wf_in w1) (wf_in w4) (by unfold maxLen at w2; omega) (by unfold maxLen at w3; omega) (fun x hx => ⟨(hza x hx).1, (hza x hx).2.1⟩)).mono fun e W' ⟨he, hbw⟩ => ?_
  subst he
  exact ⟨_, rfl, post_of_below (pa := p0) (pv := []) hW' (fun _ _ _ => trodAll_mk1 (shut_bool Try.underlying4 _))
    (fun sp hsp => by
      have h4 := trodAll_mk5 (trod_behind Try.laidOut (by kernel_rfl) (of_decide_eq_true (by kernel_rfl)) h0 hbw (fun x hx => hlt x (by simp [hx])) sp (fun x hx => hsp x (by simp [hx]))) (shut_int Try.underlying3 w1) (shut_string Try.underlying9 w2) (shut_string Try.underlying9 w3) (shut_int Try.underlying3 w4)
      simp only [List.append_nil] at h4
      exact h4)
    (fun _ _ => rfl) (by simp) hbw (ok_one (by kernel_rfl) rfl (okWide_bool_mk Try.underlying4 _))⟩

theorem arenaSets_holds : Rows.ArenaSetsSaid :=
  OpenClaim.holds_of_wide 6 Try.f6 rfl rfl rfl rfl rfl rfl rfl ⟨rfl, rfl, rfl, rfl, rfl⟩ rfl rfl rfl rfl rfl (by kernel_rfl) Try.func6 (by kernel_rfl)
    (of_decide_eq_true (by kernel_rfl)) (by unfold Func.isWrapper; rw [if_neg (of_decide_eq_false (by kernel_rfl))]; exact ⟨rfl, rfl⟩)
    (fun os started H enc _ => sets_lifted os started H enc)
#print axioms arenaSets_holds
end Go.Proofs.Ytmafhaadcjgcbaa
end
