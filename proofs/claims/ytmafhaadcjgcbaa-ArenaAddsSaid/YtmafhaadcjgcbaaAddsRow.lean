import Derived.Test.YtmafhaadcjgcbaaDataW
import Derived.Test.YtmafhaadcjgcbaaAddA
import Derived.Test.YtmafhaadcjgcbaaAddR
import Derived.Test.YtmafhaadcjgcbaaAKept
import Derived.Test.YtmafhaadcjgcbaaAChecksP
import Derived.Test.YtmafhaadcjgcbaaADataA
import Derived.Test.YtmafhaadcjgcbaaRows
import Derived.HandedShaped
import Derived.ChangeMaps5
section
namespace Go.Proofs.Ytmafhaadcjgcbaa
open Go.ChangeShapes Go.WideShapes Go.ChangeAt Go.RowKit Go.Deep

/-! ### Five arguments -/
section
variable {H : Type} {enc : TypeId × Value → H} {P : Program} {w : World} {base : Nat} {spare : Nat → Bool} {held : Bool}
theorem trodAll_five {t t' t'' t3 t4 : TypeId} {args : Array Value} {ds : List (DataW H)} {ps : List MemPlace} (h : DataW.TrodAll enc P w base spare held [t, t', t'', t3, t4] args.toList ds ps) :
    ∃ v v' v'' v3 v4 d d' d'' d3 d4 p p' p'' p3 p4, args = #[v, v', v'', v3, v4] ∧ ds = [d, d', d'', d3, d4] ∧ ps = p ++ p' ++ p'' ++ p3 ++ p4 ∧ DataW.Trod enc P w base spare held t v d p ∧ DataW.Trod enc P w base spare held t' v' d' p' ∧ DataW.Trod enc P w base spare held t'' v'' d'' p'' ∧ DataW.Trod enc P w base spare held t3 v3 d3 p3 ∧ DataW.Trod enc P w base spare held t4 v4 d4 p4 := by
  obtain ⟨v, vs, d, ds', p, q, hargs, rfl, rfl, hd, hrest⟩ := trodAll_cons h
  obtain ⟨v', vs', d', ds'', p', q', rfl, rfl, rfl, hd', hrest'⟩ := trodAll_cons hrest
  obtain ⟨v'', vs'', d'', ds''', p'', q'', rfl, rfl, rfl, hd'', hrest''⟩ := trodAll_cons hrest'
  obtain ⟨v3, vs3, d3, ds3, p3, q3, rfl, rfl, rfl, hd3, hrest3⟩ := trodAll_cons hrest''
  obtain ⟨v4, vs4, d4, ds4, p4, q4, rfl, rfl, rfl, hd4, hrest4⟩ := trodAll_cons hrest3
  obtain ⟨rfl, rfl, rfl⟩ := trodAll_nil hrest4
  exact ⟨v, v', v'', v3, v4, d, d', d'', d3, d4, p, p', p'', p3, p4, by cases args; simp_all, rfl, by simp, hd, hd', hd'', hd3, hd4⟩
theorem trodAll_mk5 {t t' t'' t3 t4 : TypeId} {v v' v'' v3 v4 : Value} {d d' d'' d3 d4 : DataW H} {p p' p'' p3 p4 : List MemPlace} (h : DataW.Trod enc P w base spare held t v d p) (h' : DataW.Trod enc P w base spare held t' v' d' p')
    (h'' : DataW.Trod enc P w base spare held t'' v'' d'' p'') (h3 : DataW.Trod enc P w base spare held t3 v3 d3 p3) (h4 : DataW.Trod enc P w base spare held t4 v4 d4 p4) : DataW.TrodAll enc P w base spare held [t, t', t'', t3, t4] [v, v', v'', v3, v4] [d, d', d'', d3, d4] (p ++ (p' ++ (p'' ++ (p3 ++ p4)))) :=
  ⟨p, p' ++ (p'' ++ (p3 ++ p4)), h, trodAll_mk4 h' h'' h3 h4, rfl⟩
end
end Go.Proofs.Ytmafhaadcjgcbaa
end
section
/- the law of a node more -/
namespace Go.Proofs.Ytmafhaadcjgcbaa
open Go Go.RowKit

open Classical in
noncomputable def addMo (m : AModel) (parent : Int) (role : ByteArray) (a : Int) (concept : ByteArray) : AModel :=
  if addE m parent role a concept ≠ 0 then ⟨0, []⟩ else if parent = 0 then addRoot m concept
  else addKid m (atI m.nodes parent).toNat (nodeOf m parent) ((spotI (nodeOf m parent).kids (inL m (nodeOf m parent) role) a).getD 0).toNat concept role
noncomputable def addI (m : AModel) (parent : Int) (role : ByteArray) (a : Int) (concept : ByteArray) : Int := if addE m parent role a concept ≠ 0 then 0 else m.next
open Classical in
theorem addE_ok {m : AModel} {parent a : Int} {role concept : ByteArray} (h : addE m parent role a concept = 0) : CheckM m := by
  by_cases hc : CheckM m
  · exact hc
  · rw [addE_check hc] at h; cases h
open Classical in
theorem add_got {w' : World} {base : Nat} {m : AModel} {parent a : Int} {role concept : ByteArray} {v : Value} (h : AddAs w' base m parent role a concept v) :
    ∃ A' c', v = .tuple #[.agg #[.int .i64 (addMo m parent role a concept).next, .slice A' (addMo m parent role a concept).nodes.length c'], .int .i64 (addI m parent role a concept), .int .i64 (addE m parent role a concept)] ∧
      RowOf 7 ENode w' (fun b => base ≤ b ∧ b < w'.heap.size) A' (addMo m parent role a concept).nodes ∧ (addMo m parent role a concept).nodes.length ≤ 9223372036854775807 := by
  rcases h with ⟨E, hE, he, rfl⟩ | ⟨he, vl, l, rfl, hown, hcase⟩
  · have h1 : addE m parent role a concept ≠ 0 := by rw [he]; exact hE
    have e1 : addMo m parent role a concept = ⟨0, []⟩ := if_pos h1
    have e2 : addI m parent role a concept = 0 := if_pos h1
    rw [e1, e2, he]
    exact ⟨none, 0, rfl, RowOf.nil _, by simp⟩
  · have h1 : ¬ addE m parent role a concept ≠ 0 := fun e => e he
    have e2 : addI m parent role a concept = m.next := if_neg h1
    obtain ⟨A', c', hv, h3, h4, h5⟩ := hown.isRow (F := fun b => base ≤ b ∧ b < w'.heap.size) (fun b h1 h2 => ⟨h1, h2⟩)
    have hm : addMo m parent role a concept = ⟨m.next + 1, l.map LN.n⟩ := by
      unfold addMo
      rw [if_neg h1]
      rcases hcase with ⟨hp, hl⟩ | ⟨hp, j, hj, hji, i, hi, hl⟩
      · rw [if_pos hp, hl]; rfl
      · have hc := addE_ok he
        have hn : nodeOf m parent = m.nodes[j] := by rw [← hji]; exact hc.tree.nodeOf (List.getElem_mem hj)
        have ha : atI m.nodes parent = j := by rw [← hji]; exact atI_some hc.1.srt hj rfl
        rw [if_neg hp, hn, ha, hi, hl]; rfl
    rw [hm, e2, he]
    subst hv
    unfold maxLen at h4
    exact ⟨A', c', by simp, h5, by show (l.map LN.n).length ≤ _; omega⟩

set_option maxRecDepth 100000 in
set_option maxHeartbeats 4000000 in
theorem adds_any (va : Value) (m : AModel) (parent : Int) (role : ByteArray) (at' : Int) (concept : ByteArray) (w : World) (h : IsModel w (fun b => b < w.heap.size) va m) (hpr : InR parent) (hat : InR at') (hrs : role.size ≤ 9223372036854775807) (hcs : concept.size ≤ 9223372036854775807) (hz : ∀ x ∈ m.nodes, NodeOK x ∧ LensOK x) :
    Calls Try.prog 5 #[va, .int .i64 parent, .string role, .int .i64 at', .string concept] w fun e w' => e = .returned (.bool true) ∧ Below w.heap.size w w' := by
  have HMA := Lib.hid h
  obtain ⟨_, rfl, A, c, rfl, ca1, ca2, ra⟩ := h
  unfold maxLen at ca2
  have HB0 := Lib.hid ((Below.refl w.heap.size w).alloc (Nat.le_refl _) (.cells #[.int .i64 m.next, .slice A m.nodes.length c] 24))
  have HGA := Lib.hid (fun (w0 : World) (hb0 : Below w.heap.size w w0) => great_any _ m w0 _ (HMA.out.keep (Keep.below hb0 fun _ h => h) (F' := fun b => b < w0.heap.size) (fun b hb => Nat.lt_of_lt_of_le hb hb0.size)))
  have HRA := Lib.hid (fun (w0 : World) (hb0 : Below w.heap.size w w0) => RowOf.keep ENode.stays (Keep.below hb0 fun _ h => h) (F' := fun b => b < w.heap.size) (fun _ h => h) ra)
  have HZ := Lib.hid hz
  clear hz ra
  by_cases hgr : 300 < m.nodes.length
  · have HG := Lib.hid (fun w0 hb0 => res_is (decide_eq_true hgr) (HGA.out w0 hb0))
    clear hgr HGA HRA
    go_enter Try.func5, Try.ntmps5
    go_wp2_with fail
    refine (HG.out _ HB0.out).mono ?_
    rintro _ w2 ⟨rfl, hb2⟩
    have HB2 := Lib.hid (HB0.out.trans (hb2.mono HB0.out.size))
    clear hb2
    go_wp2
    go_ret
    exact ⟨rfl, HB2.out⟩
  · have hln : m.nodes.length ≤ 300 := by omega
    have HG := Lib.hid (fun w0 hb0 => res_is (decide_eq_false hgr) (HGA.out w0 hb0))
    have HLE := Lib.hid (fun (w0 : World) (hb0 : Below w.heap.size w w0) => lent_any A c m w0 (fun b => b < w.heap.size) (fun b hb => Nat.lt_of_lt_of_le hb hb0.size) (HRA.out w0 hb0) (fun x hx => (HZ.out x hx).2) hln)
    clear hgr HGA
    go_enter Try.func5, Try.ntmps5
    go_wp2_with fail
    refine (HG.out _ HB0.out).mono ?_
    rintro _ w2 ⟨rfl, hb2⟩
    have HB2 := Lib.hid (HB0.out.trans (hb2.mono HB0.out.size))
    have HM2 := Lib.hid ((Blk.new w 24 #[.int .i64 m.next, .slice A m.nodes.length c]).below hb2 (by simp))
    have m0 := HM2.out.cell 0; have m1 := HM2.out.cell 1
    have hmlt := HM2.out.lt
    simp at m0 m1
    clear hb2 HB0 HG
    go_wp2_with fail
    refine (HLE.out _ HB2.out).mono ?_
    rintro _ w3 ⟨_, rfl, ⟨_, rfl, X, cx, rfl, hm3⟩, hb3⟩
    have HB3 := Lib.hid (HB2.out.trans (hb3.mono HB2.out.size))
    have HM3 := Lib.hid (HM2.out.below hb3 hmlt)
    have HX3 := Lib.hid hm3
    have hsz3 := HM3.out.lt
    clear hb3 m0 m1 HLE HB2 HM2 hmlt
    go_wp2_with fail
    obtain ⟨p, hp⟩ : ∃ p, w3.heap.size = p := ⟨_, rfl⟩
    obtain ⟨W, hW⟩ : ∃ W : World, w3.alloc (.cells #[.int .i64 m.next, .slice X m.nodes.length cx] 24) = W := ⟨_, rfl⟩
    have HBW : Hid (Below w.heap.size w W) := Lib.hid (by rw [← hW]; exact HB3.out.alloc HB3.out.size _)
    have HMW : Hid (Blk W w.heap.size 24 #[.int .i64 m.next, .slice A m.nodes.length c]) := Lib.hid (by rw [← hW]; exact HM3.out.alloc _)
    have HXW : Hid (Blk W p 24 #[.int .i64 m.next, .slice X m.nodes.length cx]) := Lib.hid (by rw [← hW, ← hp]; exact Blk.new _ _ _)
    have HLW : Hid (IsModelM W (fun b => b < w3.heap.size) (.agg #[.int .i64 m.next, .slice X m.nodes.length cx]) m) := Lib.hid (by rw [← hW]; exact IsModelM.keep (⟨_, rfl, X, cx, rfl, HX3.out⟩ : IsModelM w3 (fun b => w2.heap.size ≤ b ∧ b < w3.heap.size) (.agg #[.int .i64 m.next, .slice X m.nodes.length cx]) m) (Keep.below ((Below.refl _ _).alloc (Nat.le_refl _) _) (fun b hb => hb.2)) (fun b hb => hb.2))
    have HPW : Hid (w3.heap.size ≤ p ∧ p < W.heap.size) := Lib.hid ⟨by omega, HXW.out.lt⟩
    have hmW := HMW.out.lt
    rw [hp] at HLW HPW
    rw [hW, hp]
    clear hW hp HX3 HB3 HM3 hsz3
    have hFp : ∀ b, b < p → b < W.heap.size := fun b hb => Nat.lt_trans hb HPW.out.2
    have hRX : RowOf 7 ENode W (fun b => b < p) X m.nodes ∧ cx ≤ 9223372036854775807 := by
      obtain ⟨_, e, A', c', e2, _, x2, x3⟩ := HLW.out.plain
      simp only [Value.agg.injEq, Array.mk.injEq, List.cons.injEq, true_and, and_true] at e
      subst e
      injection e2 with f1 _ f2
      subst f1; subst f2
      unfold maxLen at x2
      exact ⟨x3, x2⟩
    have hcx := hRX.2
    have HRX := Lib.hid hRX.1
    clear hRX
    have HFX := Lib.hid (fun (w0 : World) (hb0 : Below W.heap.size W w0) (b : Nat) (hb : b < p) => Nat.lt_of_lt_of_le (hFp b hb) hb0.size)
    have HRXr := Lib.hid (fun (w0 : World) (hb0 : Below W.heap.size W w0) => HRX.out.keep ENode.stays (Keep.below hb0 hFp) (F' := fun b => b < p) (fun _ h => h))
    have HRM : Hid (∀ V, Below W.heap.size W V → (∀ b, b < w.heap.size → b < V.heap.size) ∧ RowOf 7 ENode V (fun b => b < w.heap.size) A m.nodes) := Lib.hid (fun V hV => ⟨fun b hb => by have := HBW.out.size; have := hV.size; omega, HRA.out _ (HBW.out.trans (hV.mono HBW.out.size))⟩)
    obtain ⟨M, hM⟩ : ∃ M, addMo m parent role at' concept = M := ⟨_, rfl⟩
    obtain ⟨I, hI⟩ : ∃ I, addI m parent role at' concept = I := ⟨_, rfl⟩
    obtain ⟨E, hE⟩ : ∃ E, addE m parent role at' concept = E := ⟨_, rfl⟩
    have HME := Lib.hid hM; have HIE := Lib.hid hI; have HEE := Lib.hid hE
    clear hM hI hE
    have HB := Lib.hid (Below.refl W.heap.size W)
    have m0 := HMW.out.cell 0; have m1 := HMW.out.cell 1; have x0 := HXW.out.cell 0; have x1 := HXW.out.cell 1
    have hxW := HXW.out.lt
    simp at m0 m1 x0 x1
    go_wp2_with fail
    refine (addA_any X cx m W (fun b => b < p) (HFX.out _ HB.out) (HRXr.out _ HB.out) (fun x hx => (HZ.out x hx).1) (fun x hx => (HZ.out x hx).2) (by omega) parent hpr role hrs at' hat concept hcs).mono ?_
    rintro _ w4 ⟨⟨v, rfl, hf⟩, hb4⟩
    obtain ⟨A1, c1, hv, hr1, hl1⟩ := add_got hf
    rw [HME.out, HIE.out, HEE.out] at hv
    rw [HME.out] at hr1 hl1
    subst hv
    have HR1 := Lib.hid hr1
    have HB4 := Lib.hid (HB.out.trans (hb4.mono (Nat.le_refl _)))
    have HM4 := Lib.hid (HMW.out.below hb4 hmW)
    have HX4 := Lib.hid (HXW.out.below hb4 hxW)
    have hs4 := hb4.size
    clear hf hr1 hb4 m0 m1 x0 x1
    have m0 := HM4.out.cell 0; have m1 := HM4.out.cell 1
    have hm4 := HM4.out.lt
    simp at m0 m1
    go_wp2_with fail
    obtain ⟨q1, hq1⟩ : ∃ q, w4.heap.size = q := ⟨_, rfl⟩
    obtain ⟨u1, hu1⟩ : ∃ u : World, w4.alloc (.cells #[.int .i64 M.next, .slice A1 M.nodes.length c1] 24) = u := ⟨_, rfl⟩
    have HC1 : Hid (Below w4.heap.size w4 u1) := Lib.hid (by rw [← hu1]; exact (Below.refl _ _).alloc (Nat.le_refl _) _)
    have HQ1 : Hid (Blk u1 q1 24 #[.int .i64 M.next, .slice A1 M.nodes.length c1]) := Lib.hid (by rw [← hu1, ← hq1]; exact Blk.new _ _ _)
    rw [hu1, hq1]
    have HB5 := Lib.hid (HB4.out.trans (HC1.out.mono hs4))
    have HM5 := Lib.hid (HM4.out.below HC1.out hm4)
    have HX5 := Lib.hid (HX4.out.below HC1.out HX4.out.lt)
    have HR5 := Lib.hid (HR1.out.keep ENode.stays (Keep.below HC1.out (fun b hb => hb.2)) (F' := fun b => b < u1.heap.size) (fun b hb => Nat.lt_of_lt_of_le hb.2 HC1.out.size))
    clear hu1 hq1 m0 m1 hm4 HC1 HR1 HM4 HX4
    refine (addR_any A c m u1 (fun b => b < w.heap.size) (HRM.out _ HB5.out).1 (HRM.out _ HB5.out).2 (fun x hx => (HZ.out x hx).1) (fun x hx => (HZ.out x hx).2) (by omega) parent hpr role hrs at' hat concept hcs).mono ?_
    rintro _ w6 ⟨⟨v, rfl, hf⟩, hb6⟩
    obtain ⟨A2, c2, hv, hr2, hl2⟩ := add_got hf
    rw [HME.out, HIE.out, HEE.out] at hv
    rw [HME.out] at hr2 hl2
    subst hv
    have HR2 := Lib.hid hr2
    have HB6 := Lib.hid (HB5.out.trans (hb6.mono HB5.out.size))
    have HM6 := Lib.hid (HM5.out.below hb6 HM5.out.lt)
    have HX6 := Lib.hid (HX5.out.below hb6 HX5.out.lt)
    have HQ6 := Lib.hid (HQ1.out.below hb6 HQ1.out.lt)
    have HR6 := Lib.hid (HR5.out.keep ENode.stays (Keep.below hb6 (fun b hb => hb)) (F' := fun b => b < w6.heap.size) (fun b hb => Nat.lt_of_lt_of_le hb hb6.size))
    clear hf hr2 hb6
    obtain ⟨q2, hq2⟩ : ∃ q, w6.heap.size = q := ⟨_, rfl⟩
    have HC2 : Hid (Below w6.heap.size w6 (w6.alloc (.cells #[.int .i64 M.next, .slice A2 M.nodes.length c2] 24))) := Lib.hid ((Below.refl _ _).alloc (Nat.le_refl _) _)
    have HQ7 : Hid (Blk (w6.alloc (.cells #[.int .i64 M.next, .slice A2 M.nodes.length c2] 24)) q2 24 #[.int .i64 M.next, .slice A2 M.nodes.length c2]) := Lib.hid (by rw [← hq2]; exact Blk.new _ _ _)
    have hWE : ∃ z, w6.alloc (.cells #[.int .i64 M.next, .slice A2 M.nodes.length c2] 24) = z := ⟨_, rfl⟩
    have HWE := Lib.hid hWE
    clear hWE
    go_upto_region 6 with fail
    obtain ⟨u, hu⟩ := HWE.out
    rw [hu] at HC2 HQ7
    (try rw [hu])
    (try rw [hq2])
    clear hq2 HWE hu
    have HB7 := Lib.hid (HB6.out.trans (HC2.out.mono HB6.out.size))
    have HM7 := Lib.hid (HM6.out.below HC2.out HM6.out.lt)
    have HX7 := Lib.hid (HX6.out.below HC2.out HX6.out.lt)
    have HQ1b := Lib.hid (HQ6.out.below HC2.out HQ6.out.lt)
    have HR7 := Lib.hid (HR6.out.keep ENode.stays (Keep.below HC2.out (fun b hb => hb)) (F' := fun b => b < u.heap.size) (fun b hb => Nat.lt_of_lt_of_le hb HC2.out.size))
    have HR8 := Lib.hid (HR2.out.keep ENode.stays (Keep.below HC2.out (fun b hb => hb.2)) (F' := fun b => b < u.heap.size) (fun b hb => Nat.lt_of_lt_of_le hb.2 HC2.out.size))
    clear HC2 HR6 HR2 HQ6 HX6 HM6 HB6 HB5 HM5 HX5 HQ1 HR5 HB4
    have a0 := HQ1b.out.cell 0; have a1 := HQ1b.out.cell 1; have b0 := HQ7.out.cell 0; have b1 := HQ7.out.cell 1
    simp at a0 a1 b0 b1
    go_wp2_with fail
    refine (res_is (eqB_yes (rfl : M = M)) (same_any A1 A2 c1 c2 M M u (fun b => b < u.heap.size) (fun b => b < u.heap.size) (fun _ h => h) (fun _ h => h) HR7.out HR8.out hl1)).mono ?_
    rintro _ u2 ⟨rfl, hb⟩
    have HB9 := Lib.hid (HB7.out.trans (hb.mono HB7.out.size))
    have HM9 := Lib.hid (HM7.out.below hb HM7.out.lt)
    have HX9 := Lib.hid (HX7.out.below hb HX7.out.lt)
    clear hb a0 a1 b0 b1
    have m0 := HM9.out.cell 0; have m1 := HM9.out.cell 1; have x0 := HX9.out.cell 0; have x1 := HX9.out.cell 1
    have hm9 := HM9.out.lt; have hx9 := HX9.out.lt
    simp at m0 m1 x0 x1
    have gI : (I == I) = true := beq_self_eq_true I
    have gE : (E == E) = true := beq_self_eq_true E
    go_wp2_with fail
    refine (kept_any _ _ m u2 (fun b => b < p) (fun b => b < w.heap.size) (HFX.out _ HB9.out) (HRM.out _ HB9.out).1 (HLW.out.keep (Keep.below HB9.out hFp) (fun _ h => h)) (HMA.out.keep (Keep.below (HBW.out.trans (HB9.out.mono HBW.out.size)) (fun _ h => h)) (fun _ h => h)) hln).mono ?_
    rintro _ s5 ⟨rfl, hb⟩
    have HEND := Lib.hid (HBW.out.trans ((HB9.out.trans (hb.mono HB9.out.size)).mono HBW.out.size))
    clear hb m0 m1 x0 x1
    go_wp2
    go_ret
    exact ⟨rfl, HEND.out⟩
end Go.Proofs.Ytmafhaadcjgcbaa
end
section
/- PROVED: ArenaAdds answers true for every input, and each argument reads afterwards as it read before. No condition. -/
namespace Go.Proofs.Ytmafhaadcjgcbaa
open Go.ChangeShapes Go.WideShapes Go.ChangeAt Go.RowKit Go.Deep
open Go.ChangeMaps (open_string shut_string)

theorem Try.own : ownKnob Try.prog.godebug = none := by kernel_rfl
theorem Try.laidOut : laidOutB Try.prog = true := by kernel_rfl

set_option maxRecDepth 100000 in
theorem adds_lifted (os : Os) (started : os.Started) (H : Type) (enc : TypeId × Value → H) :
    ReturnsInHanded {} Try.checked os 5 .any (Rows.arenaAddsSpec.pre6 enc Try.prog Try.f5 Rows.arenaAddsRow.domain false) (Rows.arenaAddsSpec.post enc Try.prog Try.f5 false true false false) := by
  refine returnsInHanded_of_change_shaped (C := Try.checked) Try.own started (by kernel_rfl) Try.func5
    (ChangeSpec.witness6 (enc := enc) (C := Try.checked) false ⟨#[], #[.agg #[.int .i64 0, .slice none 0 0], .int .i64 0, .string ByteArray.empty, .int .i64 0, .string ByteArray.empty], []⟩ 8 (by kernel_rfl) (by kernel_rfl) (by kernel_rfl) (by kernel_rfl)) ?_
  intro W base args ds gs before hval0 hW hcnd hwt _ _
  have hval : ∀ (j : Nat) t v, Try.f5.params[j]? = some t → args[j]? = some v → Value.okWide Try.prog W .any base t v := hval0
  have hW' := hW
  obtain ⟨p, q, hA0, hV, rfl, hfz, hnd⟩ := hW
  have hA : DataW.TrodAll enc Try.prog W 0 (fun _ => true) true Try.f5.params.toList args.toList ds p := hA0
  have hwt : (DataW.weightsEach Try.prog (Try.f5.params.toList ++ Rows.arenaAddsSpec.plain.varTypes Try.prog) (ds ++ gs)).all (· ≤ reachBytes) = true := hwt
  rw [Try.params5] at hA hval hwt
  obtain ⟨v0, v1, v2, v3, v4, d0, d1, d2, d3, d4, p0, p1, p2, p3, p4, rfl, rfl, rfl, h0, h1, h2, h3, h4⟩ := trodAll_five hA
  obtain ⟨rfl, rfl⟩ := trodVars_none hV
  obtain ⟨n, rfl, rfl, rfl, w1⟩ := open_int Try.underlying3 (hval 1 3 v1 rfl rfl) h1
  obtain ⟨s, rfl, rfl, rfl, w2⟩ := open_string Try.underlying9 (hval 2 9 v2 rfl rfl) h2
  obtain ⟨n3, rfl, rfl, rfl, w3⟩ := open_int Try.underlying3 (hval 3 3 v3 rfl rfl) h3
  obtain ⟨s4, rfl, rfl, rfl, w4⟩ := open_string Try.underlying9 (hval 4 9 v4 rfl rfl) h4
  obtain ⟨a, ha, hza, _⟩ := model_arg (hval 0 24 v0 rfl rfl) h0 (WtOK.args hwt (i := 0) rfl rfl)
  clear hA0 hval0
  simp only [List.append_nil] at hW'
  have hlt : ∀ x ∈ p0, x.block < W.heap.size := fun x hx => hW'.lt x (by simpa using hx)
  refine (adds_any v0 a n s n3 s4 W ha (wf_in w1) (wf_in w3) (by unfold maxLen at w2; omega) (by unfold maxLen at w4; omega) (fun x hx => ⟨(hza x hx).1, (hza x hx).2.1⟩)).mono fun e W' ⟨he, hbw⟩ => ?_
  subst he
  exact ⟨_, rfl, post_of_below (pa := p0) (pv := []) hW' (fun _ _ _ => trodAll_mk1 (shut_bool Try.underlying4 _))
    (fun sp hsp => by
      have h4 := trodAll_mk5 (trod_behind Try.laidOut (by kernel_rfl) (of_decide_eq_true (by kernel_rfl)) h0 hbw (fun x hx => hlt x (by simp [hx])) sp (fun x hx => hsp x (by simp [hx]))) (shut_int Try.underlying3 w1) (shut_string Try.underlying9 w2) (shut_int Try.underlying3 w3) (shut_string Try.underlying9 w4)
      simp only [List.append_nil] at h4
      exact h4)
    (fun _ _ => rfl) (by simp) hbw (ok_one (by kernel_rfl) rfl (okWide_bool_mk Try.underlying4 _))⟩

theorem arenaAdds_holds : Rows.ArenaAddsSaid :=
  OpenClaim.holds_of_wide 5 Try.f5 rfl rfl rfl rfl rfl rfl rfl ⟨rfl, rfl, rfl, rfl, rfl⟩ rfl rfl rfl rfl rfl (by kernel_rfl) Try.func5 (by kernel_rfl)
    (of_decide_eq_true (by kernel_rfl)) (by unfold Func.isWrapper; rw [if_neg (of_decide_eq_false (by kernel_rfl))]; exact ⟨rfl, rfl⟩)
    (fun os started H enc _ => adds_lifted os started H enc)
#print axioms arenaAdds_holds
end Go.Proofs.Ytmafhaadcjgcbaa
end
