import Derived.Test.YtmafhaadcjgcbaaRemoveP
import Derived.Test.YtmafhaadcjgcbaaMove
import Derived.Test.YtmafhaadcjgcbaaRegZ
import Derived.Test.YtmafhaadcjgcbaaDoneP
import Derived.Test.YtmafhaadcjgcbaaAOrder
import Derived.Test.YtmafhaadcjgcbaaMemN
import Derived.Test.YtmafhaadcjgcbaaAddA
import Derived.Test.YtmafhaadcjgcbaaCopyA
import Derived.Test.YtmafhaadcjgcbaaSetPA
import Derived.Test.YtmafhaadcjgcbaaATellsA
import Derived.Lib.QuietBelow
import Derived.Deep.CutBlock
set_option linter.unusedSimpArgs false
set_option linter.unusedVariables false
section
/- arena.Remove -/
namespace Go.Proofs.Ytmafhaadcjgcbaa
open Go Go.RowKit

theorem KeepO.ownI {O : Nat → Prop} {a w : World} {base : Nat} {v : Value} {l : List Int} (h : KeepO O a w) (ho : OwnI a base v l) (hO : ∀ b, v.ownBlock = some b → ¬ O b) : OwnI w base v l := own_keep ho (fun b e => h.block b (ho.lt b e).2 (hO b e))
set_option maxRecDepth 100000 in
set_option maxHeartbeats 8000000 in
theorem removeA_any (A : Option Addr) (c : Nat) (m : AModel) (w : World) (F : Nat → Prop) (hF : ∀ b, F b → b < w.heap.size) (h : RowOf 7 ENode w F A m.nodes) (hz : ∀ x ∈ m.nodes, NodeOK x) (hz' : ∀ x ∈ m.nodes, LensOK x) (hl : m.nodes.length ≤ 9223372036854775807) (id : Int) (hid : InR id) :
    Calls Try.prog 51 #[.agg #[.int .i64 m.next, .slice A m.nodes.length c], .int .i64 id] w fun e w' => (∃ v, e = .returned v ∧ ResOwn w' w.heap.size m.next (removeE m id) (removeL m id) v) ∧ Below w.heap.size w w' := by
  obtain ⟨EE, hEE⟩ : ∃ EE, removeE m id = EE := ⟨_, rfl⟩
  obtain ⟨LL, hLL⟩ : ∃ LL, removeL m id = LL := ⟨_, rfl⟩
  rw [hEE, hLL]
  have HEE := Lib.hid hEE; have HLL := Lib.hid hLL
  clear hEE hLL
  have HH := Lib.hid h; have HZ := Lib.hid hz; have HZ' := Lib.hid hz'; have HLB := Lib.hid hl
  obtain ⟨n, hn⟩ : ∃ n, m.nodes.length = n := ⟨_, rfl⟩
  have HN := Lib.hid hn
  rw [hn] at hl ⊢
  clear h hz hz' hn
  obtain ⟨u0, hu0⟩ : ∃ u : World, (w.alloc (.cells #[.int .i64 m.next, .slice A n c] 24)).alloc (.cells #[.int .i64 0, .slice none 0 0] 24) = u := ⟨_, rfl⟩
  have HM : Hid (Blk u0 w.heap.size 24 #[.int .i64 m.next, .slice A n c]) := Lib.hid (by rw [← hu0]; exact (Blk.new w _ _).alloc _)
  have HR : Hid (Blk u0 (w.heap.size + 1) 24 #[.int .i64 0, .slice none 0 0]) := Lib.hid (by rw [← hu0]; exact Blk.new' (by simp))
  have hb : Below w.heap.size w u0 := by rw [← hu0]; exact ((Below.refl w.heap.size w).alloc (Nat.le_refl _) _).alloc (by simp) _
  have HU0 := Lib.hid hu0
  clear hu0
  have HB_w : Hid (Below w.heap.size w u0) := Lib.hid hb
  clear hb
  have HC := Lib.hid (check_any A c m u0 F (fun b hb => Nat.lt_of_lt_of_le (hF b hb) HB_w.out.size) (HH.out.keep ENode.stays (Keep.below HB_w.out hF) (fun _ h => h)) HZ.out HLB.out)
  rw [HN.out] at HC
  have HCC : Hid (Calls Try.prog 13 #[.agg #[.int .i64 m.next, .slice A n c]] u0 fun e w' => e = .returned (.int .i64 (checkI m)) ∧ Below u0.heap.size u0 w') := HC
  clear HC
  by_cases hc : CheckM m
  rotate_left 1
  · have HC2 := Lib.hid (int_is (checkI_no hc) HCC.out)
    have E := Lib.hid (show EE = 29 from HEE.out.symm.trans (removeE_check hc))
    clear hc HCC
    go_enter Try.func51, Try.ntmps51
    go_wp2_with fail
    (try rw [HU0.out])
    refine HC2.out.mono ?_
    rintro _ u1 ⟨rfl, hb⟩
    replace HB_w : Hid (Below w.heap.size w u1) := Lib.hid (HB_w.out.trans (hb.mono HB_w.out.size))
    replace HM := Lib.hid (HM.out.below hb HM.out.lt)
    replace HR := Lib.hid (HR.out.below hb HR.out.lt)
    clear hb HU0 HC2
    have t0 := HR.out.frozen 0; have t1 := HR.out.frozen 1
    have r0 := HR.out.cell 0; have r1 := HR.out.cell 1
    have hrlt := HR.out.lt
    simp at r0 r1
    go_wp2_with fail
    have hyS := (HR.out.set_ 0 (.int .i64 0)).set_ 1 (.slice none 0 0)
    have f0 := hyS.cell 0; have f1 := hyS.cell 1
    simp at f0 f1
    have HBW := Lib.hid ((HB_w.out.setCell (p := ⟨w.heap.size + 1, 0, none⟩) (by show w.heap.size ≤ w.heap.size + 1; omega) (.int .i64 0)).setCell (p := ⟨w.heap.size + 1, 1, none⟩) (by show w.heap.size ≤ w.heap.size + 1; omega) (.slice none 0 0))
    exact bodyPost_ret (v := .tuple #[.agg #[.int .i64 0, .slice none 0 0], .int .i64 (29)]) (by simp [results, Try.results51, go_sem, f0, f1]) rfl ⟨⟨_, rfl, Or.inl ⟨by rw [E.out]; decide, by rw [E.out]⟩⟩, HBW.out⟩
  have HC2 := Lib.hid (int_is (checkI_yes hc) HCC.out)
  have HCM := Lib.hid hc
  have HS := Lib.hid hc.1.srtB
  have hl4 : n ≤ 4096 := by rw [← HN.out]; exact hc.1.1.2.2
  have HRK : Hid (∀ x ∈ m.nodes, ∀ k ∈ x.kids, InR k) := Lib.hid (fun x hx => (HZ.out x hx).2.2)
  clear hc HCC HLB
  rcases atI_cases m.nodes id with ⟨j, hj, hj1, hj2⟩ | ⟨hj1, hj2⟩
  rotate_left 1
  · have HAT := Lib.hid hj2
    have E := Lib.hid (show EE = 20 from HEE.out.symm.trans (removeE_node HCM.out (by rw [hj2]; omega)))
    clear hj1 hj2
    go_enter Try.func51, Try.ntmps51
    go_wp2_with fail
    (try rw [HU0.out])
    refine HC2.out.mono ?_
    rintro _ u1 ⟨rfl, hb⟩
    replace HB_w : Hid (Below w.heap.size w u1) := Lib.hid (HB_w.out.trans (hb.mono HB_w.out.size))
    replace HM := Lib.hid (HM.out.below hb HM.out.lt)
    replace HR := Lib.hid (HR.out.below hb HR.out.lt)
    clear hb HU0 HC2
    have HMc0 := HM.out.cell 0
    have HMc1 := HM.out.cell 1
    have HMlt := HM.out.lt
    simp at HMc0 HMc1
    have HPL := Lib.hid (place_any A c m.next id m.nodes u1 F (fun b hb => Nat.lt_of_lt_of_le (hF b hb) HB_w.out.size) (HH.out.keep ENode.stays (Keep.below HB_w.out hF) (fun _ h => h)) HS.out hid (by rw [HN.out]; omega))
    rw [HAT.out, HN.out] at HPL
    go_wp2_with fail
    refine (HPL.out).mono ?_
    rintro _ u2 ⟨rfl, hb⟩
    replace HB_w : Hid (Below w.heap.size w u2) := Lib.hid (HB_w.out.trans (hb.mono HB_w.out.size))
    replace HM := Lib.hid (HM.out.below hb HM.out.lt)
    replace HR := Lib.hid (HR.out.below hb HR.out.lt)
    clear hb
    clear HPL HMc0 HMc1 HMlt
    have g4 : decide ((-1 : Int) < 0) = true := by decide
    have t0 := HR.out.frozen 0; have t1 := HR.out.frozen 1
    have r0 := HR.out.cell 0; have r1 := HR.out.cell 1
    have hrlt := HR.out.lt
    simp at r0 r1
    go_wp2_with fail
    have hyS := (HR.out.set_ 0 (.int .i64 0)).set_ 1 (.slice none 0 0)
    have f0 := hyS.cell 0; have f1 := hyS.cell 1
    simp at f0 f1
    have HBW := Lib.hid ((HB_w.out.setCell (p := ⟨w.heap.size + 1, 0, none⟩) (by show w.heap.size ≤ w.heap.size + 1; omega) (.int .i64 0)).setCell (p := ⟨w.heap.size + 1, 1, none⟩) (by show w.heap.size ≤ w.heap.size + 1; omega) (.slice none 0 0))
    exact bodyPost_ret (v := .tuple #[.agg #[.int .i64 0, .slice none 0 0], .int .i64 (20)]) (by simp [results, Try.results51, go_sem, f0, f1]) rfl ⟨⟨_, rfl, Or.inl ⟨by rw [E.out]; decide, by rw [E.out]⟩⟩, HBW.out⟩
  have HAT := Lib.hid hj2
  have g4 : decide ((j : Int) < 0) = false := decide_eq_false (by omega)
  obtain ⟨x, hx⟩ : ∃ x, m.nodes[j] = x := ⟨_, rfl⟩
  have HX : Hid (x ∈ m.nodes ∧ x.id = id) := Lib.hid ⟨by rw [← hx]; exact List.getElem_mem hj, by rw [← hx]; exact hj1⟩
  have HXO : Hid (nodeOf m id = x) := Lib.hid (by rw [← HX.out.2]; exact HCM.out.tree.nodeOf HX.out.1)
  have E := Lib.hid (show EE = 0 from HEE.out.symm.trans (removeE_ok HCM.out (by rw [hj2]; omega)))
  obtain ⟨LB, hLB⟩ : ∃ L, belowL m id = L := ⟨_, rfl⟩
  have HLBE := Lib.hid hLB
  have hlb : LB.length ≤ 4096 := by have := HCM.out.tree.below_len HX.out.1; rw [HX.out.2, hLB, HN.out] at this; omega
  clear hj1 hj2 hx hLB
  go_enter Try.func51, Try.ntmps51
  go_wp2_with fail
  (try rw [HU0.out])
  refine HC2.out.mono ?_
  rintro _ u1 ⟨rfl, hb⟩
  replace HB_w : Hid (Below w.heap.size w u1) := Lib.hid (HB_w.out.trans (hb.mono HB_w.out.size))
  replace HM := Lib.hid (HM.out.below hb HM.out.lt)
  replace HR := Lib.hid (HR.out.below hb HR.out.lt)
  clear hb HU0 HC2
  have HMc0 := HM.out.cell 0
  have HMc1 := HM.out.cell 1
  have HMlt := HM.out.lt
  simp at HMc0 HMc1
  have HPL := Lib.hid (place_any A c m.next id m.nodes u1 F (fun b hb => Nat.lt_of_lt_of_le (hF b hb) HB_w.out.size) (HH.out.keep ENode.stays (Keep.below HB_w.out hF) (fun _ h => h)) HS.out hid (by rw [HN.out]; omega))
  rw [HAT.out, HN.out] at HPL
  go_wp2_with fail
  refine (HPL.out).mono ?_
  rintro _ u2 ⟨rfl, hb⟩
  replace HB_w : Hid (Below w.heap.size w u2) := Lib.hid (HB_w.out.trans (hb.mono HB_w.out.size))
  replace HM := Lib.hid (HM.out.below hb HM.out.lt)
  replace HR := Lib.hid (HR.out.below hb HR.out.lt)
  clear hb
  clear HPL HMc0 HMc1 HMlt
  have HSM : Hid (∀ w', Blk w' w.heap.size 24 #[.int .i64 m.next, .slice A n c] → w'.cell? ⟨w.heap.size, 0, none⟩ = some (.int .i64 m.next) ∧ w'.cell? ⟨w.heap.size, 1, none⟩ = some (.slice A n c)) := Lib.hid (fun w' h => by
    have a := h.cell 0; have b := h.cell 1
    simp at a b
    exact ⟨a, b⟩)
  have HUD := Lib.hid (fun (w' : World) (hb : Below w.heap.size w w') => under_any A c m w' F (fun b hb2 => Nat.lt_of_lt_of_le (hF b hb2) hb.size) (HH.out.keep ENode.stays (Keep.below hb hF) (fun _ h => h)) HCM.out.tree HS.out HRK.out (by rw [HN.out]; omega) x HX.out.1)
  rw [HN.out, HX.out.2, HLBE.out] at HUD
  have HMc0 := HM.out.cell 0
  have HMc1 := HM.out.cell 1
  have HMlt := HM.out.lt
  simp at HMc0 HMc1
  go_wp2_with fail
  refine (HUD.out _ HB_w.out).mono ?_
  rintro _ u3 ⟨vl, rfl, hown, hb⟩
  obtain ⟨Al, cl, rfl⟩ := hown.shape
  have HOI : Hid (OwnI u3 (w.heap.size + 2) (.slice Al LB.length cl) LB) := Lib.hid (hown.weaken (by have := HR.out.lt; omega))
  replace HB_w : Hid (Below w.heap.size w u3) := Lib.hid (HB_w.out.trans (hb.mono HB_w.out.size))
  replace HM := Lib.hid (HM.out.below hb HM.out.lt)
  replace HR := Lib.hid (HR.out.below hb HR.out.lt)
  clear hown hb HUD HSM HMc0 HMc1 HMlt
  have HOI1 := Lib.hid (OwnI.alloc HOI.out (.cells #[.int .i64 id] 3))
  have HR3 := HR.out.lt
  go_wp2_with (at_builtin; refine wpList_pushI rfl (.tmp 19) (.tmp 21) rfl ?a1 HOI1.out id u3.heap.size ?a2 ?a3 ?a4 ?a5 ?a6)
  case a1 => rfl
  case a2 => rfl
  case a3 => exact Blk.new _ _ _
  case a4 => omega
  case a5 => simp; omega
  case a6 =>
    intro A2 c2 u4 own2 hg2 _
    have hga : Below u3.heap.size u3 (u3.alloc (.cells #[.int .i64 id] 3)) := (Below.refl _ _).alloc (Nat.le_refl _) _
    replace HB_w : Hid (Below w.heap.size w u4) := Lib.hid ((HB_w.out.trans (hga.mono HB_w.out.size)).grown hg2 (by have := HB_w.out.size; have := hga.size; omega) (fun k e => by have := (HOI.out.lt k e).1; omega))
    replace HM := Lib.hid ((HM.out.below hga HM.out.lt).grown hg2 (fun e => by have := (HOI.out.lt _ e.symm).1; omega))
    replace HR := Lib.hid ((HR.out.below hga HR.out.lt).grown hg2 (fun e => by have := (HOI.out.lt _ e.symm).1; omega))
    have HOA := Lib.hid own2
    have HBO : Hid (Below u4.heap.size u4 u4) := Lib.hid (Below.refl _ _)
    clear own2 hg2 hga HOI HOI1 HR3
    obtain ⟨g, hgs⟩ : ∃ g, u4.heap.size = g := ⟨_, rfl⟩
    have HGG := Lib.hid hgs
    clear hgs
    obtain ⟨u1, hu⟩ : ∃ u : World, u4.alloc (.cells #[.slice A2 (LB.length + 1) c2] 35) = u := ⟨_, rfl⟩
    have HBU : Below u4.heap.size u4 u1 := by rw [← hu]; exact (Below.refl _ _).alloc (Nat.le_refl _) _
    have HG : Hid (Blk u1 u4.heap.size 35 #[.slice A2 (LB.length + 1) c2]) := Lib.hid (by rw [← hu]; exact Blk.new _ _ _)
    have HUE := Lib.hid hu
    clear hu
    replace HB_w : Hid (Below w.heap.size w u1) := Lib.hid (HB_w.out.trans (HBU.mono HB_w.out.size))
    replace HM := Lib.hid (HM.out.below HBU HM.out.lt)
    replace HR := Lib.hid (HR.out.below HBU HR.out.lt)
    clear HBU
    have hown : OwnI u1 (w.heap.size + 2) (.slice A2 (LB.length + 1) c2) (LB ++ [id]) := OwnI.below HOA.out (show Below u4.heap.size u4 u1 from by rw [← HUE.out]; exact (Below.refl _ _).alloc (Nat.le_refl _) _)
    have HNE : Hid (∀ k, (Value.slice A2 (LB.length + 1) c2).ownBlock = some k → k ≠ g) := Lib.hid (fun k e => by have := (HOA.out.lt k e).2; have := HGG.out; omega)
    rw [HGG.out] at HG
    have hlen : (LB ++ [id]).length = LB.length + 1 := by simp
    obtain ⟨GS, hGS⟩ : ∃ z, (LB ++ [id]).mergeSort (fun x y => decide (x ≤ y)) = z := ⟨_, rfl⟩
    have HSO := Lib.hid (sortOwn_any (.slice A2 (LB.length + 1) c2) (LB ++ [id]) u1 (w.heap.size + 2) hown (by rw [hlen]; omega))
    have HOL := Lib.hid hown.lt
    rw [hGS] at HSO
    have HGSM : Hid (∀ k, k ∈ GS ↔ k ∈ LB ++ [id]) := Lib.hid (fun k => by rw [← hGS, List.mem_mergeSort])
    have HGSS : Hid (GS.Pairwise (· ≤ ·)) := Lib.hid (by
      rw [← hGS]
      exact (List.pairwise_mergeSort (le := fun x y : Int => decide (x ≤ y)) (fun a b c h1 h2 => by simp at *; omega) (fun a b => by simp; omega) _).imp (fun h => by simpa using h))
    have hGSl : GS.length = LB.length + 1 := by rw [← hGS, List.length_mergeSort, hlen]
    clear hown hGS hlen HOA HBO
    go_upto_region 6 with fail
    rw [HUE.out, HGG.out]
    clear HUE HGG
    have HGc0 := HG.out.cell 0
    have HGlt := HG.out.lt
    simp at HGc0
    go_wp2_with fail
    refine HSO.out.mono ?_
    rintro _ u5 ⟨rfl, hown, hg⟩
    have HG4 := Lib.hid (HG.out.grown hg (fun e => HNE.out _ e.symm rfl))
    replace HM := Lib.hid (HM.out.grown hg (fun e => by have := (HOL.out _ e.symm).1; omega))
    replace HR := Lib.hid (HR.out.grown hg (fun e => by have := (HOL.out _ e.symm).1; omega))
    replace HB_w : Hid (Below w.heap.size w u5) := Lib.hid (HB_w.out.grown hg HB_w.out.size (fun k e => by have := (HOL.out k e).1; omega))
    have HOG := Lib.hid hown
    clear hown hg HSO HOL HGc0 HGlt HG
    have HG := HG4
    clear HG4
    have HMc0 := HM.out.cell 0
    have HMc1 := HM.out.cell 1
    have HMlt := HM.out.lt
    simp at HMc0 HMc1
    have HTW := Lib.hid (twinA_any A c m u5 F (fun b hb => Nat.lt_of_lt_of_le (hF b hb) HB_w.out.size) (HH.out.keep ENode.stays (Keep.below HB_w.out hF) (fun _ h => h)) HZ'.out (by rw [HN.out]; omega))
    rw [HN.out] at HTW
    go_wp2_with fail
    refine HTW.out.mono ?_
    rintro _ ut ⟨vt, rfl, l, hown, hlm, hb⟩
    have HBASE : Hid (w.heap.size + 2 ≤ u5.heap.size ∧ g < u5.heap.size ∧ ∀ k, (Value.slice A2 (LB.length + 1) c2).ownBlock = some k → k < u5.heap.size) := Lib.hid ⟨by have := HR.out.lt; omega, HG.out.lt, fun k e => (HOG.out.lt k e).2⟩
    replace HOG := Lib.hid (OwnI.below HOG.out hb)
    replace HB_w : Hid (Below w.heap.size w ut) := Lib.hid (HB_w.out.trans (hb.mono HB_w.out.size))
    replace HM := Lib.hid (HM.out.below hb HM.out.lt)
    replace HR := Lib.hid (HR.out.below hb HR.out.lt)
    replace HG := Lib.hid (HG.out.below hb HG.out.lt)
    have hll : l.length = n := by rw [← HN.out, ← hlm, List.length_map]
    obtain ⟨At, ct, rfl⟩ := own_shape hown.row
    rw [hll] at hown ⊢
    have HO := Lib.hid hown; have HLM := Lib.hid hlm; have HBT : Hid (u5.heap.size ≤ ut.heap.size) := Lib.hid hb.size
    clear hb hown hlm HTW HMc0 HMc1 HMlt
    obtain ⟨u2, hu⟩ : ∃ u : World, ut.alloc (.cells #[.int .i64 m.next, .slice At n ct] 24) = u := ⟨_, rfl⟩
    have HBU : Below ut.heap.size ut u2 := by rw [← hu]; exact (Below.refl _ _).alloc (Nat.le_refl _) _
    have HP : Hid (Blk u2 ut.heap.size 24 #[.int .i64 m.next, .slice At n ct]) := Lib.hid (by rw [← hu]; exact Blk.new _ _ _)
    have HUE := Lib.hid hu
    clear hu
    replace HB_w : Hid (Below w.heap.size w u2) := Lib.hid (HB_w.out.trans (HBU.mono HB_w.out.size))
    replace HM := Lib.hid (HM.out.below HBU HM.out.lt)
    replace HR := Lib.hid (HR.out.below HBU HR.out.lt)
    replace HG := Lib.hid (HG.out.below HBU HG.out.lt)
    clear HBU
    replace HO := Lib.hid (HO.out.below (show Below ut.heap.size ut u2 from by rw [← HUE.out]; exact (Below.refl ut.heap.size ut).alloc (Nat.le_refl _) _))
    replace HOG := Lib.hid (OwnI.below HOG.out (show Below ut.heap.size ut u2 from by rw [← HUE.out]; exact (Below.refl ut.heap.size ut).alloc (Nat.le_refl _) _))
    have HPB : Hid (u5.heap.size ≤ ut.heap.size) := HBT
    go_upto_region 8 with fail
    (try rw [HUE.out])
    (try clear HUE)
    have HPc0 := HP.out.cell 0
    have HPc1 := HP.out.cell 1
    have HPlt := HP.out.lt
    simp at HPc0 HPc1
    have HUN := Lib.hid (unhang_any m.next (.slice At n ct) l u2 u5.heap.size (OB u5.heap.size ut.heap.size) (HO.out.ob HP.out) HO.out (by have := HP.out.lt; have := HPB.out; omega) (by rw [HLM.out]; exact HS.out) (by rw [HO.out.len_map HLM.out, HN.out]; omega) (by rw [HLM.out]; exact check_kids4 HCM.out) x (by rw [HLM.out]; exact HX.out.1) (by rw [HLM.out]; exact check_parent HCM.out HX.out.1))
    rw [HLM.out, HX.out.2] at HUN
    go_wp2_with fail
    refine HUN.out.mono ?_
    rintro _ un ⟨rfl, l1, hown, hlm, hk⟩
    have HO1 := Lib.hid hown
    have HL1 : Hid (l1.map LN.n = (mu m x).nodes) := Lib.hid (by rw [hlm]; show _ = unhangN m.nodes x.parent x.id; rw [HX.out.2])
    have hno1 : ¬ OB u5.heap.size ut.heap.size w.heap.size := fun h => by have := h.1; have := HBASE.out.1; omega
    have hno2 : ¬ OB u5.heap.size ut.heap.size (w.heap.size + 1) := fun h => by have := h.1; have := HBASE.out.1; omega
    have hno3 : ¬ OB u5.heap.size ut.heap.size ut.heap.size := fun h => h.2 rfl
    have hno4 : ¬ OB u5.heap.size ut.heap.size g := fun h => by have := h.1; have := HBASE.out.2.1; omega
    replace HM := Lib.hid (hk.blk HM.out hno1)
    replace HR := Lib.hid (hk.blk HR.out hno2)
    replace HP := Lib.hid (hk.blk HP.out hno3)
    replace HG := Lib.hid (hk.blk HG.out hno4)
    replace HOG := Lib.hid (hk.ownI HOG.out (fun b e h => by have := h.1; have := HBASE.out.2.2 b e; omega))
    replace HB_w : Hid (Below w.heap.size w un) := Lib.hid (HB_w.out.trans (hk.toBelow HB_w.out.size (fun b h => by have := h.1; have := HBASE.out.1; omega)))
    clear hown hlm hk HUN HPc0 HPc1 HPlt hno1 hno2 hno3 hno4
    have hl1 : l1.length = n := by rw [HO1.out.len_map HL1.out, mu_len, HN.out]
    have HGR : Hid (∀ w', un.grownBy w' (Value.slice At n ct).ownBlock → Blk w' g 35 #[.slice A2 GS.length c2] ∧ RowOf 1 EInt w' (fun b => b < w'.heap.size) A2 GS) := Lib.hid (fun w' hg => by
      have hne1 : ∀ b, (Value.slice At n ct).ownBlock = some b → u5.heap.size ≤ b := fun b e => (HO1.out.row.lt b e).1
      refine ⟨by rw [hGSl]; exact HG.out.grown hg (fun e => by have := hne1 _ e.symm; have := HBASE.out.2.1; omega), ?_⟩
      have h1 : OwnI w' (w.heap.size + 2) (.slice A2 (LB.length + 1) c2) GS := own_keep HOG.out (fun b e => hg.block b (HOG.out.lt b e).2 (fun e2 => by have := hne1 _ e2.symm; have := HBASE.out.2.2 b e; omega))
      obtain ⟨A', c', e, _, _, h3⟩ := h1.isRow (F := fun b => b < w'.heap.size) (fun b _ h => h)
      injection e with e1; subst e1; exact h3)
    have HDQ := Lib.hid (delNodeQ_any (.slice At n ct) l1 (fun y => decide (y.n.id ∈ GS)) g un u5.heap.size HO1.out.row (fun y hy => (HO1.out.lists y hy).shape) (fun y hy w' hg => remove1_any y (HO1.out.lists y hy).shape g A2 c2 GS w' (fun b => b < w'.heap.size) (fun b h => h) (HGR.out w' hg).2 (by omega) HGSS.out (HGR.out w' hg).1) (by omega))
    clear HGR
    have HPc0 := HP.out.cell 0
    have HPc1 := HP.out.cell 1
    have HPlt := HP.out.lt
    simp at HPc0 HPc1
    go_wp2_with fail
    refine HDQ.out.mono ?_
    rintro _ uz ⟨v9, rfl, hrow, hg, hvo⟩
    have HO2 := Lib.hid (HO1.out.drop_nodes _ hrow hg hvo)
    have hne1 : ∀ b, (Value.slice At n ct).ownBlock = some b → u5.heap.size ≤ b := fun b e => (HO1.out.row.lt b e).1
    have HNP : Hid (∀ b, some b ∈ (v9.ownBlock :: allBlocks (keepQ (fun y : LN => decide (y.n.id ∈ GS)) l1)) → b ≠ ut.heap.size) := Lib.hid (fun b hb => by
      rcases List.mem_cons.1 hb with hb | hb
      · rw [hvo] at hb
        exact HO1.out.ne_blk HP.out b (by rw [hb]; exact List.mem_cons_self ..)
      · exact HO1.out.ne_blk HP.out b (List.mem_cons_of_mem _ ((sub_flat _ _).subset hb)))
    have HVP : Hid ((Value.slice At n ct).ownBlock ≠ some ut.heap.size) := Lib.hid (fun e => HO1.out.ne_blk HP.out ut.heap.size (by rw [e]; exact List.mem_cons_self ..) rfl)
    replace HP := Lib.hid (HP.out.grown hg (fun e => HVP.out e.symm))
    replace HR := Lib.hid (HR.out.grown hg (fun e => by have := hne1 _ e.symm; have := HBASE.out.1; omega))
    replace HB_w : Hid (Below w.heap.size w uz) := Lib.hid (HB_w.out.grown hg HB_w.out.size (fun k e => by have := hne1 k e; have := HBASE.out.1; omega))
    have HFIN : Hid ((keepQ (fun y : LN => decide (y.n.id ∈ GS)) l1).map LN.n = LL) := Lib.hid (by
      rw [map_keepQ (fun k => decide (k ∈ GS)), HL1.out, ← HLL.out]
      unfold removeL
      rw [HXO.out, HLBE.out]
      congr 1
      funext y
      rw [show decide (y.id ∈ GS) = decide (y.id ∈ LB ++ [id]) from decide_eq_decide.2 (HGSM.out y.id)])
    obtain ⟨A9, c9, rfl⟩ := own_shape hrow
    clear hrow hg hvo HDQ HPc0 HPc1 HPlt HM HG HOG HO1 hne1
    have p0 := HP.out.cell 0; have p1 := HP.out.cell 1
    have hplt := HP.out.lt
    have tp0 := HP.out.frozen 0; have tp1 := HP.out.frozen 1
    simp at p0 p1
    obtain ⟨kn, hkn⟩ : ∃ z, (keepQ (fun y : LN => decide (y.n.id ∈ GS)) l1).length = z := ⟨_, rfl⟩
    rw [hkn] at HO2 HNP ⊢
    clear hkn
    go_upto_region 10 with fail
    obtain ⟨uy, huy⟩ : ∃ u : World, uz.setCell ⟨ut.heap.size, 1, none⟩ (.slice A9 kn c9) = u := ⟨_, rfl⟩
    have HUY := Lib.hid huy
    have HP2 : Hid (Blk uy ut.heap.size 24 #[.int .i64 m.next, .slice A9 kn c9]) := Lib.hid (by rw [← huy]; exact HP.out.set_ 1 (.slice A9 kn c9))
    have hb : Below ut.heap.size uz uy := by rw [← huy]; exact (Below.refl _ _).setCell (p := ⟨ut.heap.size, 1, none⟩) (Nat.le_refl _) _
    have hut : w.heap.size + 2 ≤ ut.heap.size := by have := HBASE.out.1; have := HPB.out; omega
    replace HR := Lib.hid (HR.out.below hb (by omega))
    replace HB_w := Lib.hid (HB_w.out.trans (hb.mono (by omega)))
    have HO3 : Hid (OwnM uy u5.heap.size (.slice A9 kn c9) (keepQ (fun y : LN => decide (y.n.id ∈ GS)) l1)) := Lib.hid (by
      rw [← huy]
      exact ⟨own_keep HO2.out.row (fun b e => Below.heap_setCell _ _ _ _ (HNP.out b (by rw [e]; exact List.mem_cons_self ..))), fun y hy => (HO2.out.lists y hy).keep (fun b e => Below.heap_setCell _ _ _ _ (HNP.out b (List.mem_cons_of_mem _ (mem_all hy e)))), HO2.out.dis⟩)
    rw [huy]
    clear huy hb p0 p1 hplt tp0 tp1 HP HO2
    have p0 := HP2.out.cell 0; have p1 := HP2.out.cell 1
    have hplt := HP2.out.lt
    simp at p0 p1
    have t0 := HR.out.frozen 0; have t1 := HR.out.frozen 1
    have r0 := HR.out.cell 0; have r1 := HR.out.cell 1
    have hrlt := HR.out.lt
    simp at r0 r1
    go_wp2_with fail
    have hyS := (HR.out.set_ 0 (.int .i64 m.next)).set_ 1 (.slice A9 kn c9)
    have f0 := hyS.cell 0; have f1 := hyS.cell 1
    simp at f0 f1
    have HBW := Lib.hid ((HB_w.out.setCell (p := ⟨w.heap.size + 1, 0, none⟩) (by show w.heap.size ≤ w.heap.size + 1; omega) (.int .i64 m.next)).setCell (p := ⟨w.heap.size + 1, 1, none⟩) (by show w.heap.size ≤ w.heap.size + 1; omega) (.slice A9 kn c9))
    refine bodyPost_ret (v := .tuple #[.agg #[.int .i64 m.next, .slice A9 kn c9], .int .i64 0]) (by simp [results, Try.results51, go_sem, f0, f1]) rfl ⟨⟨_, rfl, Or.inr ⟨E.out, _, _, rfl, ?_, HFIN.out⟩⟩, HBW.out⟩
    refine (HO3.out.keep (w' := (uy.setCell ⟨w.heap.size + 1, 0, none⟩ (.int .i64 m.next)).setCell ⟨w.heap.size + 1, 1, none⟩ (.slice A9 kn c9)) (fun b h1 _ => ?_)).weaken (by have := HBASE.out.1; omega)
    have := HBASE.out.1
    exact (Below.heap_setCell _ _ _ _ (by show b ≠ w.heap.size + 1; omega)).trans (Below.heap_setCell _ _ _ _ (by show b ≠ w.heap.size + 1; omega))
end Go.Proofs.Ytmafhaadcjgcbaa
end
section
/- one of a model's IDs, or none -/
namespace Go.Proofs.Ytmafhaadcjgcbaa
open Go Go.RowKit

set_option maxRecDepth 100000 in
set_option maxHeartbeats 4000000 in
theorem pick_any (A : Option Addr) (c : Nat) (m : AModel) (w : World) (F : Nat → Prop) (hF : ∀ b, F b → b < w.heap.size) (h : RowOf 7 ENode w F A m.nodes) (hc : CheckM m) (x : Int) (hx : InR x) :
    Calls Try.prog 57 #[.agg #[.int .i64 m.next, .slice A m.nodes.length c], .int .i64 x] w fun e w' => e = .returned (.int .i64 (pickI m x)) ∧ Below w.heap.size w w' := by
  have hl4 := hc.1.1.2.2
  have HOR := Lib.hid (fun (w' : World) (hb : Below w.heap.size w w') => order_any A c m w' F (fun b h => Nat.lt_of_lt_of_le (hF b h) hb.size) (h.keep ENode.stays (Keep.below hb hF) (fun _ h => h)) (node_ok hc) (by omega))
  rw [ordL_yes hc] at HOR
  obtain ⟨L, hL⟩ : ∃ L, orderL m = L := ⟨_, rfl⟩
  have hol : L.length ≤ 4096 := by rw [← hL]; exact Nat.le_trans hc.tree.order_len hl4
  have hq := restN_lt x (show 1 ≤ L.length + 1 by omega)
  have HRE : Hid (∀ w', Calls Try.prog 58 #[.int .i64 x, .int .i64 ((L.length : Int) + 1)] w' fun e w2 => e = .returned (.int .i64 (restN x (L.length + 1))) ∧ Below w'.heap.size w' w2) := Lib.hid (fun w' => rest_any x (L.length + 1) hx (by omega) (by omega) w')
  obtain ⟨r, hr⟩ : ∃ r, pickI m x = r := ⟨_, rfl⟩
  have HR : Hid (L.getD (restN x (L.length + 1)) 0 = r) := Lib.hid (by rw [← hr]; unfold pickI; rw [hL])
  obtain ⟨q, hq2⟩ : ∃ q, restN x (L.length + 1) = q := ⟨_, rfl⟩
  rw [hq2] at HRE hq HR
  rw [hL] at HOR
  obtain ⟨n, hn⟩ : ∃ n, m.nodes.length = n := ⟨_, rfl⟩
  rw [hn] at HOR hl4 ⊢
  rw [hr]
  clear h hF hL hn hc hr hq2
  obtain ⟨u0, hu0⟩ : ∃ u : World, w.alloc (.cells #[.int .i64 m.next, .slice A n c] 24) = u := ⟨_, rfl⟩
  have MM : Hid (Mem w u0 ([.blk w.heap.size 24 #[.int .i64 m.next, .slice A n c]])) := Lib.hid (by rw [← hu0]; exact (Mem.start w).allocG rfl #[.int .i64 m.next, .slice A n c] 24)
  have HU0 := Lib.hid hu0
  clear hu0
  go_enter Try.func57, Try.ntmps57
  go_wp2_with fail
  (try rw [HU0.out])
  clear HU0
  refine (HOR.out _ MM.out.below).mono ?_
  rintro _ u1 ⟨v, rfl, hown, hb⟩
  obtain ⟨Al, cl, rfl⟩ := hown.shape
  have HLR : Hid (∀ w', Below u1.heap.size u1 w' → RowOf 1 EInt w' (fun b => b < u1.heap.size) Al L) := Lib.hid (fun w' hb' => by
    obtain ⟨A', c', e, _, _, h3⟩ := hown.isRow (F := fun b => b < u1.heap.size) (fun b _ h => h)
    injection e with e1; subst e1
    exact h3.keep EInt.stays (Keep.below hb' (fun _ h => h)) (fun _ h => h))
  clear hown HOR
  have MM2 : Hid (Mem w u1 ([.blk w.heap.size 24 #[.int .i64 m.next, .slice A n c]])) := Lib.hid (MM.out.call hb)
  clear MM
  have MM := MM2
  clear MM2
  clear hb
  go_wp2_with fail
  refine (HRE.out _).mono ?_
  rintro _ u2 ⟨rfl, hb⟩
  have HLR2 := Lib.hid (HLR.out _ hb)
  clear HRE HLR
  have MM2 : Hid (Mem w u2 ([.blk w.heap.size 24 #[.int .i64 m.next, .slice A n c]])) := Lib.hid (MM.out.call hb)
  clear MM
  have MM := MM2
  clear MM2
  clear hb
  by_cases hqe : q = L.length
  · have g : ((q : Int) == (L.length : Int)) = true := by simp; omega
    go_wp2
    go_ret
    have e := HR.out
    rw [List.getD_eq_getElem?_getD, List.getElem?_eq_none (by omega)] at e
    exact ⟨by rw [← e]; rfl, MM.out.below⟩
  · have g : ((q : Int) == (L.length : Int)) = false := by simp; omega
    have hql : q < L.length := by omega
    obtain ⟨b, off, rfl, _, q0⟩ := int_at HLR2.out hql
    have q1 : (q : Int) < L.length := by omega
    have q2 : (0 : Int) ≤ q := by omega
    go_wp2
    go_ret
    have e := HR.out
    rw [List.getD_eq_getElem?_getD, List.getElem?_eq_getElem hql] at e
    exact ⟨by rw [← e]; rfl, MM.out.below⟩
end Go.Proofs.Ytmafhaadcjgcbaa
end
section
/- what an act makes of a model: topiarylaw02.done -/
namespace Go.Proofs.Ytmafhaadcjgcbaa
open Go Go.RowKit

structure ActOK (a : QAct) : Prop where
  hkind : InR a.kind
  ha : InR a.a
  hb : InR a.b
  hat : InR a.at'
  hword : a.word.size ≤ 9223372036854775807
  htext : a.text.size ≤ 9223372036854775807
/-- a model that an act made, or the one that was, and its error -/
def DoneAs (w' : World) (base : Nat) (A : Option Addr) (c : Nat) (m : AModel) (E : Int) (M : AModel) (v : Value) : Prop :=
  (E ≠ 0 ∧ M = m ∧ v = .tuple #[.agg #[.int .i64 m.next, .slice A m.nodes.length c], .int .i64 E]) ∨
  (E = 0 ∧ ∃ vl l, v = .tuple #[.agg #[.int .i64 M.next, vl], .int .i64 0] ∧ OwnM w' base vl l ∧ l.map LN.n = M.nodes)
/-- the same, of the callee's model alone -/
def MadeAs (w' : World) (base : Nat) (E : Int) (M : AModel) (z : Int) (A1 : Option Addr) (n1 c1 : Nat) : Prop :=
  E ≠ 0 ∨ (E = 0 ∧ z = M.next ∧ ∃ l, OwnM w' base (.slice A1 n1 c1) l ∧ l.map LN.n = M.nodes)
theorem MadeAs.to {w' w2 : World} {base base2 : Nat} {E : Int} {M M2 : AModel} {z : Int} {A1 : Option Addr} {n1 c1 : Nat} (h : MadeAs w' base E M z A1 n1 c1) (hM : E = 0 → M2 = M) (hb : base2 ≤ base) (hk : ∀ b, base2 ≤ b → b < w'.heap.size → w2.heap[b]? = w'.heap[b]?) : MadeAs w2 base2 E M2 z A1 n1 c1 := by
  rcases h with h | ⟨e, e2, l, ho, hl⟩
  · exact .inl h
  · rw [hM e]
    exact .inr ⟨e, e2, l, (ho.weaken hb).keep hk, hl⟩
section
variable {w' : World} {base : Nat} {m : AModel} {v : Value}
theorem set_made (hc : CheckM m) {id E : Int} {g : ANode → ANode} (h : SetAs w' base m id E g v) : ∃ z A1 n1 c1, v = .tuple #[.agg #[.int .i64 z, .slice A1 n1 c1], .int .i64 E] ∧ MadeAs w' base E ⟨m.next, m.nodes.set (atI m.nodes id).toNat (g (nodeOf m id))⟩ z A1 n1 c1 := by
  rcases h with ⟨hE, rfl⟩ | ⟨hE, vl, l, rfl, ho, j, hj, rfl, hl⟩
  · exact ⟨0, none, 0, 0, rfl, .inl hE⟩
  · obtain ⟨A', c', rfl⟩ := own_shape ho.row
    have e1 : (atI m.nodes m.nodes[j].id).toNat = j := by rw [atI_some hc.1.srt hj rfl]; rfl
    have e2 : nodeOf m m.nodes[j].id = m.nodes[j] := hc.tree.nodeOf (List.getElem_mem hj)
    refine ⟨m.next, A', l.length, c', by rw [hE], .inr ⟨hE, rfl, l, ho, ?_⟩⟩
    rw [hl, e1, e2]
theorem res_made {next E : Int} {ns : List ANode} (h : ResOwn w' base next E ns v) : ∃ z A1 n1 c1, v = .tuple #[.agg #[.int .i64 z, .slice A1 n1 c1], .int .i64 E] ∧ MadeAs w' base E ⟨next, ns⟩ z A1 n1 c1 := by
  rcases h with ⟨hE, rfl⟩ | ⟨hE, vl, l, rfl, ho, hl⟩
  · exact ⟨0, none, 0, 0, rfl, .inl hE⟩
  · obtain ⟨A', c', rfl⟩ := own_shape ho.row
    exact ⟨next, A', l.length, c', by rw [hE], .inr ⟨hE, rfl, l, ho, hl⟩⟩
theorem copy_made {next more E : Int} {ns : List ANode} (h : ResCopyO w' base next more E ns v) : ∃ k z A1 n1 c1, v = .tuple #[.agg #[.int .i64 z, .slice A1 n1 c1], .int .i64 k, .int .i64 E] ∧ MadeAs w' base E ⟨next + more, ns⟩ z A1 n1 c1 := by
  rcases h with ⟨hE, rfl⟩ | ⟨hE, vl, l, rfl, ho, hl⟩
  · exact ⟨0, 0, none, 0, 0, rfl, .inl hE⟩
  · obtain ⟨A', c', rfl⟩ := own_shape ho.row
    exact ⟨next, next + more, A', l.length, c', by rw [hE], .inr ⟨hE, rfl, l, ho, hl⟩⟩
theorem add_made (hc : CheckM m) {p a : Int} {role concept : ByteArray} (h : AddAs w' base m p role a concept v) : ∃ k z A1 n1 c1, v = .tuple #[.agg #[.int .i64 z, .slice A1 n1 c1], .int .i64 k, .int .i64 (addE m p role a concept)] ∧ MadeAs w' base (addE m p role a concept) (addM m p role a concept) z A1 n1 c1 := by
  rcases h with ⟨E, hE, e, rfl⟩ | ⟨hE, vl, l, rfl, ho, h2⟩
  · exact ⟨0, 0, none, 0, 0, by rw [e], .inl (by rw [e]; exact hE)⟩
  · obtain ⟨A', c', rfl⟩ := own_shape ho.row
    refine ⟨m.next, m.next + 1, A', l.length, c', by rw [hE], .inr ⟨hE, ?_, l, ho, ?_⟩⟩
    · unfold addM; split <;> rfl
    · rcases h2 with ⟨hp, hl⟩ | ⟨hp, j, hj, rfl, i, hs, hl⟩
      · rw [hl]; unfold addM; rw [if_pos hp]
      · have e1 : (atI m.nodes m.nodes[j].id).toNat = j := by rw [atI_some hc.1.srt hj rfl]; rfl
        have e2 : nodeOf m m.nodes[j].id = m.nodes[j] := hc.tree.nodeOf (List.getElem_mem hj)
        rw [hl]
        unfold addM
        rw [if_neg hp, e1, e2, hs]
        rfl
theorem kidR_len (hc : CheckM m) (role : ByteArray) (id : Int) : (kidR m role id).length ≤ 4096 := by
  have h4 := check_kids4 hc
  unfold kidR
  split
  · rename_i h
    obtain ⟨_, x, hx, e⟩ := h
    subst e
    rw [hc.tree.nodeOf hx]
    exact Nat.le_trans (List.length_filter_le _ _) (h4 x hx)
  · simp
theorem pick_in (hc : CheckM m) (x : Int) : pickI m x = 0 ∨ ∃ y ∈ m.nodes, y.id = pickI m x := by
  unfold pickI
  rw [List.getD_eq_getElem?_getD]
  by_cases h : restN x ((orderL m).length + 1) < (orderL m).length
  · rw [List.getElem?_eq_getElem h]
    exact .inr (hc.tree.order_node (List.getElem_mem h))
  · rw [List.getElem?_eq_none (by omega)]; exact .inl rfl
theorem pick_inR (hc : CheckM m) (x : Int) : InR (pickI m x) := by
  rcases pick_in hc x with e | ⟨y, hy, e⟩
  · rw [e]; unfold InR; omega
  · obtain ⟨j, hj, rfl⟩ := List.getElem_of_mem hy
    have h1 := hc.1.2 j hj
    have h2 := hc.1.1.2.1
    rw [← e]; unfold InR; omega
end

set_option maxRecDepth 100000 in
set_option maxHeartbeats 8000000 in
theorem done_any (A : Option Addr) (c : Nat) (m : AModel) (w : World) (F : Nat → Prop) (hF : ∀ b, F b → b < w.heap.size) (h : RowOf 7 ENode w F A m.nodes) (hc : CheckM m) (k : Nat) (hk : k ≤ 100000) (hf : Few k m) (a : QAct) (ha : ActOK a) :
    Calls Try.prog 54 #[.agg #[.int .i64 m.next, .slice A m.nodes.length c], .agg #[.int .i64 a.kind, .int .i64 a.a, .int .i64 a.b, .int .i64 a.at', .string a.word, .string a.text]] w fun e w' => (∃ v, e = .returned v ∧ DoneAs w' w.heap.size A c m (doneE m a) (doneM m a) v) ∧ Below w.heap.size w w' := by
  have hl4 := hc.1.1.2.2
  have HLN := Lib.hid (lens_few hc hf hk)
  have HNO := Lib.hid (node_ok hc)
  have HRW : Hid (∀ w', Below w.heap.size w w' → RowOf 7 ENode w' F A m.nodes) := Lib.hid (fun w' hb => h.keep ENode.stays (Keep.below hb hF) (fun _ h => h))
  have HFW : Hid (∀ w', Below w.heap.size w w' → ∀ b, F b → b < w'.heap.size) := Lib.hid (fun w' hb b h => Nat.lt_of_lt_of_le (hF b h) hb.size)
  obtain ⟨ak, hak⟩ : ∃ ak, a.kind = ak := ⟨_, rfl⟩
  obtain ⟨kd, hkd⟩ : ∃ kd, restN ak 7 = kd := ⟨_, rfl⟩
  have hkd7 : kd < 7 := by rw [← hkd]; exact restN_lt _ (by omega)
  have HRK : Hid (∀ w', Calls Try.prog 58 #[.int .i64 ak, .int .i64 7] w' fun e w2 => e = .returned (.int .i64 kd) ∧ Below w'.heap.size w' w2) := Lib.hid (fun w' => by
    have := rest_any ak 7 (by rw [← hak]; exact ha.hkind) (by omega) (by omega) w'
    rw [hkd] at this
    exact this)
  have HPA := Lib.hid (fun (w' : World) (hb : Below w.heap.size w w') => pick_any A c m w' F (HFW.out _ hb) (HRW.out _ hb) hc a.a ha.ha)
  have HPB := Lib.hid (fun (w' : World) (hb : Below w.heap.size w w') => pick_any A c m w' F (HFW.out _ hb) (HRW.out _ hb) hc a.b ha.hb)
  obtain ⟨x, hx⟩ : ∃ x, pickI m a.a = x := ⟨_, rfl⟩
  obtain ⟨y, hy⟩ : ∃ y, pickI m a.b = y := ⟨_, rfl⟩
  have hxr : InR x := by rw [← hx]; exact pick_inR hc _
  have hyr : InR y := by rw [← hy]; exact pick_inR hc _
  rw [hx] at HPA
  rw [hy] at HPB
  have HKD := Lib.hid (fun (w' : World) (hb : Below w.heap.size w w') => kidsA_any A c m w' F (HFW.out _ hb) (HRW.out _ hb) HNO.out (by omega) y hyr a.word)
  obtain ⟨KL, hKL⟩ : ∃ L, kidR m a.word y = L := ⟨_, rfl⟩
  have hkl : KL.length ≤ 4096 := by rw [← hKL]; exact kidR_len hc _ _
  rw [hKL] at HKD
  obtain ⟨at2, hat2⟩ : ∃ z, a.at' = z := ⟨_, rfl⟩
  obtain ⟨q, hq⟩ : ∃ q, restN at2 (KL.length + 1) = q := ⟨_, rfl⟩
  have hql : q < KL.length + 1 := by rw [← hq]; exact restN_lt _ (by omega)
  have HRQ : Hid (∀ w', Calls Try.prog 58 #[.int .i64 at2, .int .i64 (IntKind.i64.wrap ((KL.length : Int) + 1))] w' fun e w2 => e = .returned (.int .i64 q) ∧ Below w'.heap.size w' w2) := Lib.hid (fun w' => by
    rw [IntWalk.i64_in ((KL.length : Int) + 1) ⟨by omega, by omega⟩]
    have := rest_any at2 (KL.length + 1) (by rw [← hat2]; exact ha.hat) (by omega) (by omega) w'
    rw [hq] at this
    exact this)
  obtain ⟨ro, hro⟩ : ∃ r, roleOf m a = r := ⟨_, rfl⟩
  obtain ⟨pl, hpl⟩ : ∃ p, placeOf m a = p := ⟨_, rfl⟩
  obtain ⟨wd, hwd⟩ : ∃ z, a.word = z := ⟨_, rfl⟩
  obtain ⟨tx, htx⟩ : ∃ z, a.text = z := ⟨_, rfl⟩
  have HR0 : Hid (y = 0 → ro = ⟨#[]⟩ ∧ pl = 0) := Lib.hid (fun h0 => by
    rw [← hro, ← hpl]
    exact ⟨if_pos (hy.trans h0), if_pos (hy.trans h0)⟩)
  have HR1 : Hid (y ≠ 0 → ro = wd ∧ pl = q) := Lib.hid (fun h0 => by
    rw [← hro, ← hpl]
    refine ⟨(if_neg (by rw [hy]; exact h0)).trans hwd, (if_neg (by rw [hy]; exact h0)).trans ?_⟩
    rw [hy, hKL, hat2, hq])
  have hwds : wd.size ≤ 9223372036854775807 := by rw [← hwd]; exact ha.hword
  have htxs : tx.size ≤ 9223372036854775807 := by rw [← htx]; exact ha.htext
  have hros : ro.size ≤ 9223372036854775807 := by
    by_cases h0 : y = 0
    · rw [(HR0.out h0).1]; decide
    · rw [(HR1.out h0).1]; exact hwds
  have hplr : InR pl := by
    by_cases h0 : y = 0
    · rw [(HR0.out h0).2]; unfold InR; omega
    · rw [(HR1.out h0).2]; unfold InR; omega
  obtain ⟨E, hE⟩ : ∃ E, doneE m a = E := ⟨_, rfl⟩
  obtain ⟨M, hM⟩ : ∃ M, doneM m a = M := ⟨_, rfl⟩
  have HE : Hid (E = actE m kd x y ro pl wd tx) := Lib.hid (by rw [← hE]; unfold doneE; rw [hak, hkd, hx, hy, hro, hpl, hwd, htx])
  have HM1 : Hid (E = 0 → M = actM m kd x y ro pl wd tx) := Lib.hid (fun h0 => by rw [← hM]; unfold doneM; rw [if_pos (hE.trans h0), hak, hkd, hx, hy, hro, hpl, hwd, htx])
  have HM0 : Hid (E ≠ 0 → M = m) := Lib.hid (fun h0 => by rw [← hM]; exact if_neg (by rw [hE]; exact h0))
  rw [hE, hM]
  have HADD := Lib.hid (fun (w' : World) (hb : Below w.heap.size w w') => addA_any A c m w' F (HFW.out _ hb) (HRW.out _ hb) HNO.out HLN.out (by omega) y hyr ro hros pl hplr sN (by decide))
  have HMOV := Lib.hid (fun (w' : World) (hb : Below w.heap.size w w') => moveA_any A c m w' F (HFW.out _ hb) (HRW.out _ hb) HNO.out HLN.out (by omega) x hxr y hyr ro hros pl hplr)
  have HCPY := Lib.hid (fun (w' : World) (hb : Below w.heap.size w w') => copyA_any A c m w' F (HFW.out _ hb) (HRW.out _ hb) HNO.out HLN.out (by omega) x hxr y hyr ro hros pl hplr)
  have HREM := Lib.hid (fun (w' : World) (hb : Below w.heap.size w w') => removeA_any A c m w' F (HFW.out _ hb) (HRW.out _ hb) HNO.out HLN.out (by omega) x hxr)
  have HPUT := Lib.hid (fun (w' : World) (hb : Below w.heap.size w w') => putA_any A c m w' F (HFW.out _ hb) (HRW.out _ hb) HNO.out HLN.out (by omega) x hxr wd hwds tx htxs)
  have HAIM := Lib.hid (fun (w' : World) (hb : Below w.heap.size w w') => aimA_any A c m w' F (HFW.out _ hb) (HRW.out _ hb) HNO.out HLN.out (by omega) x hxr wd hwds y hyr)
  obtain ⟨n, hn⟩ : ∃ n, m.nodes.length = n := ⟨_, rfl⟩
  have HN := Lib.hid hn
  rw [hn] at HPA HPB HKD HADD HMOV HCPY HREM HPUT HAIM hl4 ⊢
  rw [hwd] at HKD
  obtain ⟨aa, haa⟩ : ∃ z, a.a = z := ⟨_, rfl⟩
  obtain ⟨ab, hab⟩ : ∃ z, a.b = z := ⟨_, rfl⟩
  rw [haa] at HPA
  rw [hab] at HPB
  rw [hak, haa, hab, hat2, hwd, htx]
  have HCM := Lib.hid hc
  clear h hF hn hc ha hf hk HRW HFW HLN HNO hak hkd hx hy hKL hat2 hq hro hpl hwd htx hE hM haa hab
  obtain ⟨u0, hu0⟩ : ∃ u : World, ((w.alloc (.cells #[.int .i64 m.next, .slice A n c] 24)).alloc (.cells #[.int .i64 ak, .int .i64 aa, .int .i64 ab, .int .i64 at2, .string wd, .string tx] 74)).alloc (.cells #[.int .i64 0, .slice none 0 0] 24) = u := ⟨_, rfl⟩
  have MM : Hid (Mem w u0 ([.blk w.heap.size 24 #[.int .i64 m.next, .slice A n c], .blk (w.heap.size + 1) 74 #[.int .i64 ak, .int .i64 aa, .int .i64 ab, .int .i64 at2, .string wd, .string tx], .blk (w.heap.size + 2) 24 #[.int .i64 0, .slice none 0 0]])) := Lib.hid (by
    rw [← hu0]
    have h := (((Mem.start w).allocG rfl #[.int .i64 m.next, .slice A n c] 24).allocG (g := w.heap.size + 1) (by simp) #[.int .i64 ak, .int .i64 aa, .int .i64 ab, .int .i64 at2, .string wd, .string tx] 74).allocG (g := w.heap.size + 2) (by simp) #[.int .i64 0, .slice none 0 0] 24
    exact h.pick0 [2, 1, 0] _ (by decide) rfl)
  have HU0 := Lib.hid hu0
  clear hu0
  go_enter Try.func54, Try.ntmps54
  go_upto_region 1 with fail
  (try rw [HU0.out])
  clear HU0
  have mc0 := (MM.out.blk 0 rfl).cell 0
  have mc1 := (MM.out.blk 0 rfl).cell 1
  have mlt := (MM.out.blk 0 rfl).lt
  simp at mc0 mc1
  have cc1 := (MM.out.blk 1 rfl).cell 1
  have cc2 := (MM.out.blk 1 rfl).cell 2
  have clt := (MM.out.blk 1 rfl).lt
  simp at cc1 cc2
  have k0 := cell_regrown (mc0)
  have k1 := cell_regrown (mc1)
  have k2 := cell_regrown (cc1)
  have k3 := cell_regrown (cc2)
  have CHA := Lib.hid (fun (d : Nat) (os : Array Obj) => Calls.regrown_of (w := u0) (d := d) (os := os) (HPA.out _ (MM.out.below.trans ((below_regrown u0 d os).mono MM.out.size))))
  have CHB := Lib.hid (fun (d : Nat) (os : Array Obj) => Calls.regrown_of (w := u0) (d := d) (os := os) (HPB.out _ (MM.out.below.trans ((below_regrown u0 d os).mono MM.out.size))))
  clear HPA HPB mc0 mc1 mlt cc1 cc2 clt
  refine wp_region_quiet_below (by kernel_rfl) (by kernel_rfl) ?_
  iterate 7 (first | go_big_quiet_step (exact CHA.out _ _) | quiet_step (exact CHA.out _ _))
  repeat (first | go_big_quiet_step (exact CHB.out _ _) | quiet_step (exact CHB.out _ _))
  refine wpQuiet_nil ?_
  intro _ hw'
  obtain ⟨⟨dq, osq⟩, hw''⟩ := hw'
  subst hw''
  have hb := below_regrown u0 dq osq
  obtain ⟨u1, hwi⟩ : ∃ u : World, Sort.grow (redrawn u0 dq) osq = u := ⟨_, rfl⟩
  rw [hwi] at hb ⊢
  clear hwi k0 k1 k2 k3 CHA CHB
  have MM2 : Hid (Mem w u1 ([.blk w.heap.size 24 #[.int .i64 m.next, .slice A n c], .blk (w.heap.size + 1) 74 #[.int .i64 ak, .int .i64 aa, .int .i64 ab, .int .i64 at2, .string wd, .string tx], .blk (w.heap.size + 2) 24 #[.int .i64 0, .slice none 0 0]])) := Lib.hid (MM.out.call hb)
  clear MM
  have MM := MM2
  clear MM2
  clear hb
  have cc4 := (MM.out.blk 1 rfl).cell 4
  have clt := (MM.out.blk 1 rfl).lt
  simp at cc4
  go_upto_region 3 with fail
  clear cc4 clt
  have HSM : Hid (∀ w', Blk w' w.heap.size 24 #[.int .i64 m.next, .slice A n c] → Blk w' (w.heap.size + 1) 74 #[.int .i64 ak, .int .i64 aa, .int .i64 ab, .int .i64 at2, .string wd, .string tx] → w'.cell? ⟨w.heap.size, 0, none⟩ = some (.int .i64 m.next) ∧ w'.cell? ⟨w.heap.size, 1, none⟩ = some (.slice A n c) ∧ w'.cell? ⟨w.heap.size + 1, 3, none⟩ = some (.int .i64 at2)) := Lib.hid (fun w' h h2 => by
    have a := h.cell 0; have b := h.cell 1; have d := h2.cell 3
    simp at a b d
    exact ⟨a, b, d⟩)
  obtain ⟨u, hu⟩ : ∃ z9 : World, u1.drew = z9 := ⟨_, rfl⟩
  have MM2 : Hid (Mem w u ([.blk w.heap.size 24 #[.int .i64 m.next, .slice A n c], .blk (w.heap.size + 1) 74 #[.int .i64 ak, .int .i64 aa, .int .i64 ab, .int .i64 at2, .string wd, .string tx], .blk (w.heap.size + 2) 24 #[.int .i64 0, .slice none 0 0]])) := Lib.hid (by rw [← hu]; exact MM.out.drew)
  clear MM
  have MM := MM2
  clear MM2
  refine wp_region_Y (S := (fun w' : World => w'.cell? ⟨w.heap.size, 0, none⟩ = some (.int .i64 m.next) ∧ w'.cell? ⟨w.heap.size, 1, none⟩ = some (.slice A n c) ∧ w'.cell? ⟨w.heap.size + 1, 3, none⟩ = some (.int .i64 at2))) 9 (by kernel_rfl) (by rw [hu]; exact HSM.out _ (MM.out.blk 0 rfl) (MM.out.blk 1 rfl)) (fun hHeld => ?_)
  rw [hu] at hHeld ⊢
  clear hu
  refine wpAnyY_take (i := 0) (v := ?_) rfl (by kernel_rfl) (by kernel_rfl) (by kernel_rfl) (by kernel_rfl) (fun _ _ _ h => h) (Or.inl ⟨by rfl, ?_⟩) (by assumption) ?_
  rotate_left 1
  · (intro w' hSw; obtain ⟨s0, s1, s2⟩ := hSw; go_simp); try with_reducible rfl
  try simp only [Act.put, List.setIfInBounds_toArray, List.set_cons_zero, List.set_cons_succ, Nat.zero_add]
  refine wpAnyY_take (i := 1) (v := ?_) rfl (by kernel_rfl) (by kernel_rfl) (by kernel_rfl) (by kernel_rfl) (fun _ _ _ h => h) (Or.inl ⟨by rfl, ?_⟩) (by assumption) ?_
  rotate_left 1
  · (intro w' hSw; obtain ⟨s0, s1, s2⟩ := hSw; go_simp); try with_reducible rfl
  try simp only [Act.put, List.setIfInBounds_toArray, List.set_cons_zero, List.set_cons_succ, Nat.zero_add]
  refine wpAnyY_take (i := 2) (v := ?_) rfl (by kernel_rfl) (by kernel_rfl) (by kernel_rfl) (by kernel_rfl) (fun _ _ _ h => h) (Or.inl ⟨by rfl, ?_⟩) (by assumption) ?_
  rotate_left 1
  · (intro w' hSw; obtain ⟨s0, s1, s2⟩ := hSw; go_simp); try with_reducible rfl
  try simp only [Act.put, List.setIfInBounds_toArray, List.set_cons_zero, List.set_cons_succ, Nat.zero_add]
  refine wpAnyY_take (i := 3) (v := ?_) rfl (by kernel_rfl) (by kernel_rfl) (by kernel_rfl) (by kernel_rfl) (fun _ _ _ h => h) (Or.inl ⟨by rfl, ?_⟩) (by assumption) ?_
  rotate_left 1
  · (intro w' hSw; obtain ⟨s0, s1, s2⟩ := hSw; go_simp); try with_reducible rfl
  try simp only [Act.put, List.setIfInBounds_toArray, List.set_cons_zero, List.set_cons_succ, Nat.zero_add]
  refine wpAnyY_take (i := 4) (v := ?_) rfl (by kernel_rfl) (by kernel_rfl) (by kernel_rfl) (by kernel_rfl) (fun _ _ _ h => h) (Or.inl ⟨by rfl, ?_⟩) (by assumption) ?_
  rotate_left 1
  · (intro w' hSw; obtain ⟨s0, s1, s2⟩ := hSw; go_simp); try with_reducible rfl
  try simp only [Act.put, List.setIfInBounds_toArray, List.set_cons_zero, List.set_cons_succ, Nat.zero_add]
  refine wpAnyY_one (i := 5) rfl (by kernel_rfl) (fun K hK => ?_)
  go_simp
  refine (HKD.out _ MM.out.below).mono ?_
  rintro _ v1 ⟨vk, rfl, hown, hb⟩
  obtain ⟨Ak, ck, rfl⟩ := hown.shape
  clear hown
  have MM2 : Hid (Mem w v1 ([.blk w.heap.size 24 #[.int .i64 m.next, .slice A n c], .blk (w.heap.size + 1) 74 #[.int .i64 ak, .int .i64 aa, .int .i64 ab, .int .i64 at2, .string wd, .string tx], .blk (w.heap.size + 2) 24 #[.int .i64 0, .slice none 0 0]])) := Lib.hid (MM.out.call hb)
  clear MM hb
  have MM := MM2
  clear MM2
  go_simp
  have hHeldv1 := HSM.out _ (MM.out.blk 0 rfl) (MM.out.blk 1 rfl)
  refine hK.out _ _ (fun _ => HSM.out _ (MM.out.blk 0 rfl) (MM.out.blk 1 rfl)) ?_
  clear hK K
  try simp only [Act.put, List.setIfInBounds_toArray, List.set_cons_zero, List.set_cons_succ, Nat.zero_add]
  refine wpAnyY_take (i := 6) (v := ?_) rfl (by kernel_rfl) (by kernel_rfl) (by kernel_rfl) (by kernel_rfl) (fun _ _ _ h => h) (Or.inl ⟨by rfl, ?_⟩) (by assumption) ?_
  rotate_left 1
  · (intro w' hSw; obtain ⟨s0, s1, s2⟩ := hSw; go_simp); try with_reducible rfl
  try simp only [Act.put, List.setIfInBounds_toArray, List.set_cons_zero, List.set_cons_succ, Nat.zero_add]
  refine wpAnyY_take (i := 7) (v := ?_) rfl (by kernel_rfl) (by kernel_rfl) (by kernel_rfl) (by kernel_rfl) (fun _ _ _ h => h) (Or.inl ⟨by rfl, ?_⟩) (by assumption) ?_
  rotate_left 1
  · (intro w' hSw; obtain ⟨s0, s1, s2⟩ := hSw; go_simp); try with_reducible rfl
  try simp only [Act.put, List.setIfInBounds_toArray, List.set_cons_zero, List.set_cons_succ, Nat.zero_add]
  refine wpAnyY_one (i := 8) rfl (by kernel_rfl) (fun K hK => ?_)
  go_simp
  refine (HRQ.out _).mono ?_
  rintro _ v2 ⟨rfl, hb⟩
  have MM2 : Hid (Mem w v2 ([.blk w.heap.size 24 #[.int .i64 m.next, .slice A n c], .blk (w.heap.size + 1) 74 #[.int .i64 ak, .int .i64 aa, .int .i64 ab, .int .i64 at2, .string wd, .string tx], .blk (w.heap.size + 2) 24 #[.int .i64 0, .slice none 0 0]])) := Lib.hid (MM.out.call hb)
  clear MM hb
  have MM := MM2
  clear MM2
  go_simp
  have hHeldv2 := HSM.out _ (MM.out.blk 0 rfl) (MM.out.blk 1 rfl)
  refine hK.out _ _ (fun _ => HSM.out _ (MM.out.blk 0 rfl) (MM.out.blk 1 rfl)) ?_
  clear hK K
  try simp only [Act.put, List.setIfInBounds_toArray, List.set_cons_zero, List.set_cons_succ, Nat.zero_add]
  refine wpAnyY_one0 (i := 9) rfl (by kernel_rfl) (by kernel_rfl) (fun K hK => ?_)
  go_simp
  refine hK.out _ _ ?_
  clear hK K
  try simp only [Act.put, List.setIfInBounds_toArray, List.set_cons_zero, List.set_cons_succ, Nat.zero_add]
  refine wpAnyY_done (by kernel_rfl) ?_ _
  clear hHeld hHeldv1 hHeldv2 HKD HRQ HSM
  go_upto_if 32 with fail
  go_cut [8, 9] (fun s8 s9 wx => s8 = .string ro ∧ s9 = .int .i64 pl ∧ Mem w wx ([.blk w.heap.size 24 #[.int .i64 m.next, .slice A n c], .blk (w.heap.size + 1) 74 #[.int .i64 ak, .int .i64 aa, .int .i64 ab, .int .i64 at2, .string wd, .string tx], .blk (w.heap.size + 2) 24 #[.int .i64 0, .slice none 0 0]]))
  case first =>
    by_cases hy0 : y = 0
    · obtain ⟨e1, e2⟩ := HR0.out hy0
      subst hy0
      have G1 := Lib.hid e1; have G2 := Lib.hid e2
      clear e1 e2 HR0 HR1
      go_wp2_with fail
      go_meet
      case rel => exact ⟨by rw [G1.out], by rw [G2.out], MM.out⟩
    · obtain ⟨e1, e2⟩ := HR1.out hy0
      have g1 : (y == 0) = false := by simp; exact hy0
      have G1 := Lib.hid e1; have G2 := Lib.hid e2
      clear e1 e2 hy0 HR0 HR1
      go_wp2_with fail
      go_meet
      case rel => exact ⟨by rw [G1.out], by rw [G2.out], MM.out⟩
  case rest =>
    obtain ⟨rfl, rfl, hm⟩ := hcut
    clear MM
    obtain ⟨c1, rfl⟩ : ∃ v : World, v = wc := ⟨_, rfl⟩
    have MM := Lib.hid hm
    clear hm HR0 HR1
    have mc0 := (MM.out.blk 0 rfl).cell 0
    have mc1 := (MM.out.blk 0 rfl).cell 1
    have mlt := (MM.out.blk 0 rfl).lt
    simp at mc0 mc1
    obtain ⟨g, hg⟩ : ∃ g, c1.heap.size = g := ⟨_, rfl⟩
    have HG : Hid (w.heap.size + 3 ≤ g) := Lib.hid (by have := (MM.out.blk 2 rfl).lt; omega)
    obtain ⟨c2, hu⟩ : ∃ z9 : World, c1.alloc (.cells #[.int .i64 m.next, .slice A n c] 24) = z9 := ⟨_, rfl⟩
    have MM2 : Hid (Mem w c2 ([.blk w.heap.size 24 #[.int .i64 m.next, .slice A n c], .blk (w.heap.size + 1) 74 #[.int .i64 ak, .int .i64 aa, .int .i64 ab, .int .i64 at2, .string wd, .string tx], .blk (w.heap.size + 2) 24 #[.int .i64 0, .slice none 0 0], .blk g 24 #[.int .i64 m.next, .slice A n c]])) := Lib.hid (by rw [← hu]; exact (MM.out.allocG hg #[.int .i64 m.next, .slice A n c] 24).pick0 [1, 2, 3, 0] _ (by decide) rfl)
    clear MM
    have MM := MM2
    clear MM2
    go_upto_region 7 with fail
    (try rw [hu])
    (try rw [hg])
    clear hu hg
    clear mc0 mc1 mlt
    have cc0 := (MM.out.blk 1 rfl).cell 0
    have clt := (MM.out.blk 1 rfl).lt
    simp at cc0
    go_wp2_with fail
    refine (HRK.out _).mono ?_
    rintro _ c3 ⟨rfl, hb⟩
    clear cc0 clt
    have MM2 : Hid (Mem w c3 ([.blk w.heap.size 24 #[.int .i64 m.next, .slice A n c], .blk (w.heap.size + 1) 74 #[.int .i64 ak, .int .i64 aa, .int .i64 ab, .int .i64 at2, .string wd, .string tx], .blk (w.heap.size + 2) 24 #[.int .i64 0, .slice none 0 0], .blk g 24 #[.int .i64 m.next, .slice A n c]])) := Lib.hid (MM.out.call hb)
    clear MM
    have MM := MM2
    clear MM2
    clear hb HRK
    go_upto_block 0 with fail
    go_cut [11] (fun s11 wx => ∃ (z : Int) (A1 : Option Addr) (n1 c1 : Nat), s11 = .int .i64 E ∧ Mem w wx [.blk w.heap.size 24 #[.int .i64 m.next, .slice A n c], .blk (w.heap.size + 1) 74 #[.int .i64 ak, .int .i64 aa, .int .i64 ab, .int .i64 at2, .string wd, .string tx], .blk (w.heap.size + 2) 24 #[.int .i64 0, .slice none 0 0], .blk g 24 #[.int .i64 z, .slice A1 n1 c1]] ∧ g + 1 ≤ wx.heap.size ∧ MadeAs wx (g + 1) E M z A1 n1 c1)
    case first =>
      rcases (show kd = 0 ∨ kd = 1 ∨ kd = 2 ∨ kd = 3 ∨ kd = 4 ∨ kd = 5 ∨ kd = 6 by omega) with rfl | rfl | rfl | rfl | rfl | rfl | rfl
      · have HE2 : Hid (addE m y ro pl sN = E) := Lib.hid HE.out.symm
        have HM2 := Lib.hid HM1.out
        clear HE HM1 HM0 HMOV HCPY HREM HPUT HAIM
        have mc0 := (MM.out.blk 0 rfl).cell 0
        have mc1 := (MM.out.blk 0 rfl).cell 1
        have mlt := (MM.out.blk 0 rfl).lt
        simp at mc0 mc1
        go_wp2_with fail
        refine (HADD.out _ MM.out.below).mono ?_
        rintro _ u2 ⟨⟨v, rfl, hres⟩, hb⟩
        clear mc0 mc1 mlt
        obtain ⟨k1, z, A1, n1, c1, rfl, hmd⟩ := add_made HCM.out hres
        clear hres HADD
        rw [HE2.out] at hmd ⊢
        have HMD := Lib.hid hmd
        have HGS : Hid (g + 1 ≤ c3.heap.size ∧ g + 1 ≤ u2.heap.size) := Lib.hid (by have := (MM.out.blk 3 rfl).lt; have := hb.size; omega)
        have MM2 : Hid (Mem w u2 ([.blk w.heap.size 24 #[.int .i64 m.next, .slice A n c], .blk (w.heap.size + 1) 74 #[.int .i64 ak, .int .i64 aa, .int .i64 ab, .int .i64 at2, .string wd, .string tx], .blk (w.heap.size + 2) 24 #[.int .i64 0, .slice none 0 0], .blk g 24 #[.int .i64 m.next, .slice A n c]])) := Lib.hid (MM.out.call hb)
        clear MM
        have MM := MM2
        clear MM2
        clear hb hmd HE2
        have gc0 := (MM.out.blk 3 rfl).cell 0
        have gc1 := (MM.out.blk 3 rfl).cell 1
        have gf0 := (MM.out.blk 3 rfl).frozen 0
        have gf1 := (MM.out.blk 3 rfl).frozen 1
        have glt := (MM.out.blk 3 rfl).lt
        simp at gc0 gc1
        go_wp2_with fail
        go_meet
        case rel =>
          refine ⟨z, A1, n1, c1, rfl, (MM.out.set_ 3 rfl 0 (.int .i64 z)).set_ 3 rfl 1 (.slice A1 n1 c1), by simpa using HGS.out.2, HMD.out.to HM2.out HGS.out.1 (fun b h1 _ => ?_)⟩
          exact (Below.heap_setCell _ _ _ _ (by show b ≠ g; omega)).trans (Below.heap_setCell _ _ _ _ (by show b ≠ g; omega))
      · have HE2 : Hid (addE m y ro pl sN = E) := Lib.hid HE.out.symm
        have HM2 := Lib.hid HM1.out
        clear HE HM1 HM0 HMOV HCPY HREM HPUT HAIM
        have mc0 := (MM.out.blk 0 rfl).cell 0
        have mc1 := (MM.out.blk 0 rfl).cell 1
        have mlt := (MM.out.blk 0 rfl).lt
        simp at mc0 mc1
        go_wp2_with fail
        refine (HADD.out _ MM.out.below).mono ?_
        rintro _ u2 ⟨⟨v, rfl, hres⟩, hb⟩
        clear mc0 mc1 mlt
        obtain ⟨k1, z, A1, n1, c1, rfl, hmd⟩ := add_made HCM.out hres
        clear hres HADD
        rw [HE2.out] at hmd ⊢
        have HMD := Lib.hid hmd
        have HGS : Hid (g + 1 ≤ c3.heap.size ∧ g + 1 ≤ u2.heap.size) := Lib.hid (by have := (MM.out.blk 3 rfl).lt; have := hb.size; omega)
        have MM2 : Hid (Mem w u2 ([.blk w.heap.size 24 #[.int .i64 m.next, .slice A n c], .blk (w.heap.size + 1) 74 #[.int .i64 ak, .int .i64 aa, .int .i64 ab, .int .i64 at2, .string wd, .string tx], .blk (w.heap.size + 2) 24 #[.int .i64 0, .slice none 0 0], .blk g 24 #[.int .i64 m.next, .slice A n c]])) := Lib.hid (MM.out.call hb)
        clear MM
        have MM := MM2
        clear MM2
        clear hb hmd HE2
        have gc0 := (MM.out.blk 3 rfl).cell 0
        have gc1 := (MM.out.blk 3 rfl).cell 1
        have gf0 := (MM.out.blk 3 rfl).frozen 0
        have gf1 := (MM.out.blk 3 rfl).frozen 1
        have glt := (MM.out.blk 3 rfl).lt
        simp at gc0 gc1
        go_wp2_with fail
        go_meet
        case rel =>
          refine ⟨z, A1, n1, c1, rfl, (MM.out.set_ 3 rfl 0 (.int .i64 z)).set_ 3 rfl 1 (.slice A1 n1 c1), by simpa using HGS.out.2, HMD.out.to HM2.out HGS.out.1 (fun b h1 _ => ?_)⟩
          exact (Below.heap_setCell _ _ _ _ (by show b ≠ g; omega)).trans (Below.heap_setCell _ _ _ _ (by show b ≠ g; omega))
      · have HE2 : Hid (moveE m x y ro pl = E) := Lib.hid HE.out.symm
        have HM2 := Lib.hid HM1.out
        clear HE HM1 HM0 HADD HCPY HREM HPUT HAIM
        have mc0 := (MM.out.blk 0 rfl).cell 0
        have mc1 := (MM.out.blk 0 rfl).cell 1
        have mlt := (MM.out.blk 0 rfl).lt
        simp at mc0 mc1
        go_wp2_with fail
        refine (HMOV.out _ MM.out.below).mono ?_
        rintro _ u2 ⟨⟨v, rfl, hres⟩, hb⟩
        clear mc0 mc1 mlt
        obtain ⟨z, A1, n1, c1, rfl, hmd⟩ := res_made hres
        clear hres HMOV
        rw [HE2.out] at hmd ⊢
        have HMD := Lib.hid hmd
        have HGS : Hid (g + 1 ≤ c3.heap.size ∧ g + 1 ≤ u2.heap.size) := Lib.hid (by have := (MM.out.blk 3 rfl).lt; have := hb.size; omega)
        have MM2 : Hid (Mem w u2 ([.blk w.heap.size 24 #[.int .i64 m.next, .slice A n c], .blk (w.heap.size + 1) 74 #[.int .i64 ak, .int .i64 aa, .int .i64 ab, .int .i64 at2, .string wd, .string tx], .blk (w.heap.size + 2) 24 #[.int .i64 0, .slice none 0 0], .blk g 24 #[.int .i64 m.next, .slice A n c]])) := Lib.hid (MM.out.call hb)
        clear MM
        have MM := MM2
        clear MM2
        clear hb hmd HE2
        have gc0 := (MM.out.blk 3 rfl).cell 0
        have gc1 := (MM.out.blk 3 rfl).cell 1
        have gf0 := (MM.out.blk 3 rfl).frozen 0
        have gf1 := (MM.out.blk 3 rfl).frozen 1
        have glt := (MM.out.blk 3 rfl).lt
        simp at gc0 gc1
        go_wp2_with fail
        go_meet
        case rel =>
          refine ⟨z, A1, n1, c1, rfl, (MM.out.set_ 3 rfl 0 (.int .i64 z)).set_ 3 rfl 1 (.slice A1 n1 c1), by simpa using HGS.out.2, HMD.out.to HM2.out HGS.out.1 (fun b h1 _ => ?_)⟩
          exact (Below.heap_setCell _ _ _ _ (by show b ≠ g; omega)).trans (Below.heap_setCell _ _ _ _ (by show b ≠ g; omega))
      · have HE2 : Hid (copyE m x y ro pl = E) := Lib.hid HE.out.symm
        have HM2 := Lib.hid HM1.out
        clear HE HM1 HM0 HADD HMOV HREM HPUT HAIM
        have mc0 := (MM.out.blk 0 rfl).cell 0
        have mc1 := (MM.out.blk 0 rfl).cell 1
        have mlt := (MM.out.blk 0 rfl).lt
        simp at mc0 mc1
        go_wp2_with fail
        refine (HCPY.out _ MM.out.below).mono ?_
        rintro _ u2 ⟨⟨v, rfl, hres⟩, hb⟩
        clear mc0 mc1 mlt
        obtain ⟨k1, z, A1, n1, c1, rfl, hmd⟩ := copy_made hres
        clear hres HCPY
        rw [HE2.out] at hmd ⊢
        have HMD := Lib.hid hmd
        have HGS : Hid (g + 1 ≤ c3.heap.size ∧ g + 1 ≤ u2.heap.size) := Lib.hid (by have := (MM.out.blk 3 rfl).lt; have := hb.size; omega)
        have MM2 : Hid (Mem w u2 ([.blk w.heap.size 24 #[.int .i64 m.next, .slice A n c], .blk (w.heap.size + 1) 74 #[.int .i64 ak, .int .i64 aa, .int .i64 ab, .int .i64 at2, .string wd, .string tx], .blk (w.heap.size + 2) 24 #[.int .i64 0, .slice none 0 0], .blk g 24 #[.int .i64 m.next, .slice A n c]])) := Lib.hid (MM.out.call hb)
        clear MM
        have MM := MM2
        clear MM2
        clear hb hmd HE2
        have gc0 := (MM.out.blk 3 rfl).cell 0
        have gc1 := (MM.out.blk 3 rfl).cell 1
        have gf0 := (MM.out.blk 3 rfl).frozen 0
        have gf1 := (MM.out.blk 3 rfl).frozen 1
        have glt := (MM.out.blk 3 rfl).lt
        simp at gc0 gc1
        go_wp2_with fail
        go_meet
        case rel =>
          refine ⟨z, A1, n1, c1, rfl, (MM.out.set_ 3 rfl 0 (.int .i64 z)).set_ 3 rfl 1 (.slice A1 n1 c1), by simpa using HGS.out.2, HMD.out.to HM2.out HGS.out.1 (fun b h1 _ => ?_)⟩
          exact (Below.heap_setCell _ _ _ _ (by show b ≠ g; omega)).trans (Below.heap_setCell _ _ _ _ (by show b ≠ g; omega))
      · have HE2 : Hid (removeE m x = E) := Lib.hid HE.out.symm
        have HM2 := Lib.hid HM1.out
        clear HE HM1 HM0 HADD HMOV HCPY HPUT HAIM
        have mc0 := (MM.out.blk 0 rfl).cell 0
        have mc1 := (MM.out.blk 0 rfl).cell 1
        have mlt := (MM.out.blk 0 rfl).lt
        simp at mc0 mc1
        go_wp2_with fail
        refine (HREM.out _ MM.out.below).mono ?_
        rintro _ u2 ⟨⟨v, rfl, hres⟩, hb⟩
        clear mc0 mc1 mlt
        obtain ⟨z, A1, n1, c1, rfl, hmd⟩ := res_made hres
        clear hres HREM
        rw [HE2.out] at hmd ⊢
        have HMD := Lib.hid hmd
        have HGS : Hid (g + 1 ≤ c3.heap.size ∧ g + 1 ≤ u2.heap.size) := Lib.hid (by have := (MM.out.blk 3 rfl).lt; have := hb.size; omega)
        have MM2 : Hid (Mem w u2 ([.blk w.heap.size 24 #[.int .i64 m.next, .slice A n c], .blk (w.heap.size + 1) 74 #[.int .i64 ak, .int .i64 aa, .int .i64 ab, .int .i64 at2, .string wd, .string tx], .blk (w.heap.size + 2) 24 #[.int .i64 0, .slice none 0 0], .blk g 24 #[.int .i64 m.next, .slice A n c]])) := Lib.hid (MM.out.call hb)
        clear MM
        have MM := MM2
        clear MM2
        clear hb hmd HE2
        have gc0 := (MM.out.blk 3 rfl).cell 0
        have gc1 := (MM.out.blk 3 rfl).cell 1
        have gf0 := (MM.out.blk 3 rfl).frozen 0
        have gf1 := (MM.out.blk 3 rfl).frozen 1
        have glt := (MM.out.blk 3 rfl).lt
        simp at gc0 gc1
        go_wp2_with fail
        go_meet
        case rel =>
          refine ⟨z, A1, n1, c1, rfl, (MM.out.set_ 3 rfl 0 (.int .i64 z)).set_ 3 rfl 1 (.slice A1 n1 c1), by simpa using HGS.out.2, HMD.out.to HM2.out HGS.out.1 (fun b h1 _ => ?_)⟩
          exact (Below.heap_setCell _ _ _ _ (by show b ≠ g; omega)).trans (Below.heap_setCell _ _ _ _ (by show b ≠ g; omega))
      · have HE2 : Hid (setE m wd (4096 < tx.size) (atI m.nodes x < 0) = E) := Lib.hid HE.out.symm
        have HM2 := Lib.hid HM1.out
        clear HE HM1 HM0 HADD HMOV HCPY HREM HAIM
        have mc0 := (MM.out.blk 0 rfl).cell 0
        have mc1 := (MM.out.blk 0 rfl).cell 1
        have mlt := (MM.out.blk 0 rfl).lt
        simp at mc0 mc1
        have cc4 := (MM.out.blk 1 rfl).cell 4
        have cc5 := (MM.out.blk 1 rfl).cell 5
        have clt := (MM.out.blk 1 rfl).lt
        simp at cc4 cc5
        go_wp2_with fail
        refine (HPUT.out _ MM.out.below).mono ?_
        rintro _ u2 ⟨⟨v, rfl, hres⟩, hb⟩
        clear mc0 mc1 mlt cc4 cc5 clt
        obtain ⟨z, A1, n1, c1, rfl, hmd⟩ := set_made HCM.out hres
        clear hres HPUT
        rw [HE2.out] at hmd ⊢
        have HMD := Lib.hid hmd
        have HGS : Hid (g + 1 ≤ c3.heap.size ∧ g + 1 ≤ u2.heap.size) := Lib.hid (by have := (MM.out.blk 3 rfl).lt; have := hb.size; omega)
        have MM2 : Hid (Mem w u2 ([.blk w.heap.size 24 #[.int .i64 m.next, .slice A n c], .blk (w.heap.size + 1) 74 #[.int .i64 ak, .int .i64 aa, .int .i64 ab, .int .i64 at2, .string wd, .string tx], .blk (w.heap.size + 2) 24 #[.int .i64 0, .slice none 0 0], .blk g 24 #[.int .i64 m.next, .slice A n c]])) := Lib.hid (MM.out.call hb)
        clear MM
        have MM := MM2
        clear MM2
        clear hb hmd HE2
        have gc0 := (MM.out.blk 3 rfl).cell 0
        have gc1 := (MM.out.blk 3 rfl).cell 1
        have gf0 := (MM.out.blk 3 rfl).frozen 0
        have gf1 := (MM.out.blk 3 rfl).frozen 1
        have glt := (MM.out.blk 3 rfl).lt
        simp at gc0 gc1
        go_wp2_with fail
        go_meet
        case rel =>
          refine ⟨z, A1, n1, c1, rfl, (MM.out.set_ 3 rfl 0 (.int .i64 z)).set_ 3 rfl 1 (.slice A1 n1 c1), by simpa using HGS.out.2, HMD.out.to HM2.out HGS.out.1 (fun b h1 _ => ?_)⟩
          exact (Below.heap_setCell _ _ _ _ (by show b ≠ g; omega)).trans (Below.heap_setCell _ _ _ _ (by show b ≠ g; omega))
      · have HE2 : Hid (setE m wd False (atI m.nodes x < 0 ∨ atI m.nodes y < 0) = E) := Lib.hid HE.out.symm
        have HM2 := Lib.hid HM1.out
        clear HE HM1 HM0 HADD HMOV HCPY HREM HPUT
        have mc0 := (MM.out.blk 0 rfl).cell 0
        have mc1 := (MM.out.blk 0 rfl).cell 1
        have mlt := (MM.out.blk 0 rfl).lt
        simp at mc0 mc1
        have cc4 := (MM.out.blk 1 rfl).cell 4
        have clt := (MM.out.blk 1 rfl).lt
        simp at cc4
        go_wp2_with fail
        refine (HAIM.out _ MM.out.below).mono ?_
        rintro _ u2 ⟨⟨v, rfl, hres⟩, hb⟩
        clear mc0 mc1 mlt cc4 clt
        obtain ⟨z, A1, n1, c1, rfl, hmd⟩ := set_made HCM.out hres
        clear hres HAIM
        rw [HE2.out] at hmd ⊢
        have HMD := Lib.hid hmd
        have HGS : Hid (g + 1 ≤ c3.heap.size ∧ g + 1 ≤ u2.heap.size) := Lib.hid (by have := (MM.out.blk 3 rfl).lt; have := hb.size; omega)
        have MM2 : Hid (Mem w u2 ([.blk w.heap.size 24 #[.int .i64 m.next, .slice A n c], .blk (w.heap.size + 1) 74 #[.int .i64 ak, .int .i64 aa, .int .i64 ab, .int .i64 at2, .string wd, .string tx], .blk (w.heap.size + 2) 24 #[.int .i64 0, .slice none 0 0], .blk g 24 #[.int .i64 m.next, .slice A n c]])) := Lib.hid (MM.out.call hb)
        clear MM
        have MM := MM2
        clear MM2
        clear hb hmd HE2
        have gc0 := (MM.out.blk 3 rfl).cell 0
        have gc1 := (MM.out.blk 3 rfl).cell 1
        have gf0 := (MM.out.blk 3 rfl).frozen 0
        have gf1 := (MM.out.blk 3 rfl).frozen 1
        have glt := (MM.out.blk 3 rfl).lt
        simp at gc0 gc1
        go_wp2_with fail
        go_meet
        case rel =>
          refine ⟨z, A1, n1, c1, rfl, (MM.out.set_ 3 rfl 0 (.int .i64 z)).set_ 3 rfl 1 (.slice A1 n1 c1), by simpa using HGS.out.2, HMD.out.to HM2.out HGS.out.1 (fun b h1 _ => ?_)⟩
          exact (Below.heap_setCell _ _ _ _ (by show b ≠ g; omega)).trans (Below.heap_setCell _ _ _ _ (by show b ≠ g; omega))
    case rest =>
      obtain ⟨z, A1, n1, c1', rfl, hm, hgs, hmd⟩ := hcut
      clear MM
      obtain ⟨c4, rfl⟩ : ∃ v : World, v = wc := ⟨_, rfl⟩
      have MM := Lib.hid hm
      have HMD := Lib.hid hmd
      clear hm hmd HE HM1 HADD HMOV HCPY HREM HPUT HAIM hkd7
      by_cases hE0 : E = 0
      · subst hE0
        obtain ⟨l, hzz, ho, hl⟩ : ∃ l, z = M.next ∧ OwnM c4 (g + 1) (.slice A1 n1 c1') l ∧ l.map LN.n = M.nodes := by
          rcases HMD.out with h | ⟨_, e, l, h1, h2⟩
          · exact absurd rfl h
          · exact ⟨l, e, h1, h2⟩
        have HO := Lib.hid ho; have HL := Lib.hid hl; have HZZ := Lib.hid hzz
        clear ho hl hzz HMD HM0
        have gc0 := (MM.out.blk 3 rfl).cell 0
        have gc1 := (MM.out.blk 3 rfl).cell 1
        have glt := (MM.out.blk 3 rfl).lt
        simp at gc0 gc1
        have rc0 := (MM.out.blk 2 rfl).cell 0
        have rc1 := (MM.out.blk 2 rfl).cell 1
        have rf0 := (MM.out.blk 2 rfl).frozen 0
        have rf1 := (MM.out.blk 2 rfl).frozen 1
        have rlt := (MM.out.blk 2 rfl).lt
        simp at rc0 rc1
        have HRR := Lib.hid (MM.out.blk 2 rfl)
        go_wp2_with fail
        have hyS := (HRR.out.set_ 0 (.int .i64 z)).set_ 1 (.slice A1 n1 c1')
        have f0 := hyS.cell 0; have f1 := hyS.cell 1
        simp at f0 f1
        have HBW := Lib.hid ((MM.out.below.setCell (p := ⟨w.heap.size + 2, 0, none⟩) (by show w.heap.size ≤ w.heap.size + 2; omega) (.int .i64 z)).setCell (p := ⟨w.heap.size + 2, 1, none⟩) (by show w.heap.size ≤ w.heap.size + 2; omega) (.slice A1 n1 c1'))
        refine bodyPost_ret (v := .tuple #[.agg #[.int .i64 z, .slice A1 n1 c1'], .int .i64 0]) (by simp [results, Try.results54, go_sem, f0, f1]) rfl ⟨⟨_, rfl, Or.inr ⟨rfl, _, l, by rw [HZZ.out], (HO.out.keep (fun b h1 _ => ?_)).weaken (by have := HG.out; omega), HL.out⟩⟩, HBW.out⟩
        have hg3 := HG.out
        exact (Below.heap_setCell _ _ _ _ (by show b ≠ w.heap.size + 2; omega)).trans (Below.heap_setCell _ _ _ _ (by show b ≠ w.heap.size + 2; omega))
      · have g1 : (E != 0) = true := by simp; exact hE0
        have HEN := Lib.hid hE0
        clear hE0 HMD
        have mc0 := (MM.out.blk 0 rfl).cell 0
        have mc1 := (MM.out.blk 0 rfl).cell 1
        have mlt := (MM.out.blk 0 rfl).lt
        simp at mc0 mc1
        have rc0 := (MM.out.blk 2 rfl).cell 0
        have rc1 := (MM.out.blk 2 rfl).cell 1
        have rf0 := (MM.out.blk 2 rfl).frozen 0
        have rf1 := (MM.out.blk 2 rfl).frozen 1
        have rlt := (MM.out.blk 2 rfl).lt
        simp at rc0 rc1
        have HRR := Lib.hid (MM.out.blk 2 rfl)
        go_wp2_with fail
        have hyS := (HRR.out.set_ 0 (.int .i64 m.next)).set_ 1 (.slice A n c)
        have f0 := hyS.cell 0; have f1 := hyS.cell 1
        simp at f0 f1
        have HBW := Lib.hid ((MM.out.below.setCell (p := ⟨w.heap.size + 2, 0, none⟩) (by show w.heap.size ≤ w.heap.size + 2; omega) (.int .i64 m.next)).setCell (p := ⟨w.heap.size + 2, 1, none⟩) (by show w.heap.size ≤ w.heap.size + 2; omega) (.slice A n c))
        exact bodyPost_ret (v := .tuple #[.agg #[.int .i64 m.next, .slice A n c], .int .i64 E]) (by simp [results, Try.results54, go_sem, f0, f1]) rfl ⟨⟨_, rfl, Or.inl ⟨HEN.out, HM0.out HEN.out, by rw [HN.out]⟩⟩, HBW.out⟩
end Go.Proofs.Ytmafhaadcjgcbaa
end
