import Derived.Test.YtmafhaadcjgcbaaRemoveP
import Derived.Test.YtmafhaadcjgcbaaMove
import Derived.Test.YtmafhaadcjgcbaaRegZ
import Derived.Test.YtmafhaadcjgcbaaAPlainRef
import Derived.Test.YtmafhaadcjgcbaaMoveR
set_option linter.unusedSimpArgs false
set_option linter.unusedVariables false
section
/- arena.Remove -/
namespace Go.Proofs.Ytmafhaadcjgcbaa
open Go Go.RowKit

theorem KeepO.ownI {O : Nat → Prop} {a w : World} {base : Nat} {v : Value} {l : List Int} (h : KeepO O a w) (ho : OwnI a base v l) (hO : ∀ b, v.ownBlock = some b → ¬ O b) : OwnI w base v l := own_keep ho (fun b e => h.block b (ho.lt b e).2 (hO b e))
set_option maxRecDepth 100000 in
set_option maxHeartbeats 8000000 in
theorem removeA_any (A : Option Addr) (c : Nat) (m : AModel) (w : World) (F : Nat → Prop) (hF : ∀ b, F b → b < w.heap.size) (h : RowOf 7 ENode w F A m.nodes) (hz : ∀ x ∈ m.nodes, NodeOK x) (hz' : ∀ x ∈ m.nodes, LensOK x) (hl : m.nodes.length ≤ 9223372036854775807) (id : Int) (hid : InR id) :
    Calls Try.prog 51 #[.agg #[.int .i64 m.next, .slice A m.nodes.length c], .int .i64 id] w fun e w' => (∃ v, e = .returned v ∧ ResAs w' w.heap.size m.next (removeE m id) (removeL m id) v) ∧ Below w.heap.size w w' := by
  obtain ⟨EE, hEE⟩ : ∃ EE, removeE m id = EE := ⟨_, rfl⟩
  obtain ⟨LL, hLL⟩ : ∃ LL, removeL m id = LL := ⟨_, rfl⟩
  rw [hEE, hLL]
  have HEE := Lib.hid hEE; have HLL := Lib.hid hLL
  clear hEE hLL
  have HH := Lib.hid h; have HZ := Lib.hid hz; have HZ' := Lib.hid hz'; have HLB := Lib.hid hl
  obtain ⟨n, hn⟩ : ∃ n, m.nodes.length = n := ⟨_, rfl⟩
  have HN := Lib.hid hn
  rw [hn] at hl ⊢
  clear h hz hz' hn
  obtain ⟨u0, hu0⟩ : ∃ u : World, (w.alloc (.cells #[.int .i64 m.next, .slice A n c] 24)).alloc (.cells #[.int .i64 0, .slice none 0 0] 24) = u := ⟨_, rfl⟩
  have HM : Hid (Blk u0 w.heap.size 24 #[.int .i64 m.next, .slice A n c]) := Lib.hid (by rw [← hu0]; exact (Blk.new w _ _).alloc _)
  have HR : Hid (Blk u0 (w.heap.size + 1) 24 #[.int .i64 0, .slice none 0 0]) := Lib.hid (by rw [← hu0]; exact Blk.new' (by simp))
  have hb : Below w.heap.size w u0 := by rw [← hu0]; exact ((Below.refl w.heap.size w).alloc (Nat.le_refl _) _).alloc (by simp) _
  have HU0 := Lib.hid hu0
  clear hu0
  have HB_w : Hid (Below w.heap.size w u0) := Lib.hid hb
  clear hb
  have HC := Lib.hid (check_any A c m u0 F (fun b hb => Nat.lt_of_lt_of_le (hF b hb) HB_w.out.size) (HH.out.keep ENode.stays (Keep.below HB_w.out hF) (fun _ h => h)) HZ.out HLB.out)
  rw [HN.out] at HC
  have HCC : Hid (Calls Try.prog 13 #[.agg #[.int .i64 m.next, .slice A n c]] u0 fun e w' => e = .returned (.int .i64 (checkI m)) ∧ Below u0.heap.size u0 w') := HC
  clear HC
  by_cases hc : CheckM m
  rotate_left 1
  · have HC2 := Lib.hid (int_is (checkI_no hc) HCC.out)
    have E := Lib.hid (show EE = 29 from HEE.out.symm.trans (removeE_check hc))
    clear hc HCC
    go_enter Try.func51, Try.ntmps51
    go_wp2_with fail
    (try rw [HU0.out])
    refine HC2.out.mono ?_
    rintro _ u1 ⟨rfl, hb⟩
    replace HB_w : Hid (Below w.heap.size w u1) := Lib.hid (HB_w.out.trans (hb.mono HB_w.out.size))
    replace HM := Lib.hid (HM.out.below hb HM.out.lt)
    replace HR := Lib.hid (HR.out.below hb HR.out.lt)
    clear hb HU0 HC2
    have t0 := HR.out.frozen 0; have t1 := HR.out.frozen 1
    have r0 := HR.out.cell 0; have r1 := HR.out.cell 1
    have hrlt := HR.out.lt
    simp at r0 r1
    go_wp2_with fail
    have hyS := (HR.out.set_ 0 (.int .i64 0)).set_ 1 (.slice none 0 0)
    have f0 := hyS.cell 0; have f1 := hyS.cell 1
    simp at f0 f1
    have HBW := Lib.hid ((HB_w.out.setCell (p := ⟨w.heap.size + 1, 0, none⟩) (by show w.heap.size ≤ w.heap.size + 1; omega) (.int .i64 0)).setCell (p := ⟨w.heap.size + 1, 1, none⟩) (by show w.heap.size ≤ w.heap.size + 1; omega) (.slice none 0 0))
    exact bodyPost_ret (v := .tuple #[.agg #[.int .i64 0, .slice none 0 0], .int .i64 (29)]) (by simp [results, Try.results51, go_sem, f0, f1]) rfl ⟨⟨_, rfl, Or.inl ⟨by rw [E.out]; decide, by rw [E.out]⟩⟩, HBW.out⟩
  have HC2 := Lib.hid (int_is (checkI_yes hc) HCC.out)
  have HCM := Lib.hid hc
  have HS := Lib.hid hc.1.srtB
  have hl4 : n ≤ 4096 := by rw [← HN.out]; exact hc.1.1.2.2
  have HRK : Hid (∀ x ∈ m.nodes, ∀ k ∈ x.kids, InR k) := Lib.hid (fun x hx => (HZ.out x hx).2.2)
  clear hc HCC HLB
  rcases atI_cases m.nodes id with ⟨j, hj, hj1, hj2⟩ | ⟨hj1, hj2⟩
  rotate_left 1
  · have HAT := Lib.hid hj2
    have E := Lib.hid (show EE = 20 from HEE.out.symm.trans (removeE_node HCM.out (by rw [hj2]; omega)))
    clear hj1 hj2
    go_enter Try.func51, Try.ntmps51
    go_wp2_with fail
    (try rw [HU0.out])
    refine HC2.out.mono ?_
    rintro _ u1 ⟨rfl, hb⟩
    replace HB_w : Hid (Below w.heap.size w u1) := Lib.hid (HB_w.out.trans (hb.mono HB_w.out.size))
    replace HM := Lib.hid (HM.out.below hb HM.out.lt)
    replace HR := Lib.hid (HR.out.below hb HR.out.lt)
    clear hb HU0 HC2
    have HMc0 := HM.out.cell 0
    have HMc1 := HM.out.cell 1
    have HMlt := HM.out.lt
    simp at HMc0 HMc1
    have HPL := Lib.hid (place_any A c m.next id m.nodes u1 F (fun b hb => Nat.lt_of_lt_of_le (hF b hb) HB_w.out.size) (HH.out.keep ENode.stays (Keep.below HB_w.out hF) (fun _ h => h)) HS.out hid (by rw [HN.out]; omega))
    rw [HAT.out, HN.out] at HPL
    go_wp2_with fail
    refine (HPL.out).mono ?_
    rintro _ u2 ⟨rfl, hb⟩
    replace HB_w : Hid (Below w.heap.size w u2) := Lib.hid (HB_w.out.trans (hb.mono HB_w.out.size))
    replace HM := Lib.hid (HM.out.below hb HM.out.lt)
    replace HR := Lib.hid (HR.out.below hb HR.out.lt)
    clear hb
    clear HPL HMc0 HMc1 HMlt
    have g4 : decide ((-1 : Int) < 0) = true := by decide
    have t0 := HR.out.frozen 0; have t1 := HR.out.frozen 1
    have r0 := HR.out.cell 0; have r1 := HR.out.cell 1
    have hrlt := HR.out.lt
    simp at r0 r1
    go_wp2_with fail
    have hyS := (HR.out.set_ 0 (.int .i64 0)).set_ 1 (.slice none 0 0)
    have f0 := hyS.cell 0; have f1 := hyS.cell 1
    simp at f0 f1
    have HBW := Lib.hid ((HB_w.out.setCell (p := ⟨w.heap.size + 1, 0, none⟩) (by show w.heap.size ≤ w.heap.size + 1; omega) (.int .i64 0)).setCell (p := ⟨w.heap.size + 1, 1, none⟩) (by show w.heap.size ≤ w.heap.size + 1; omega) (.slice none 0 0))
    exact bodyPost_ret (v := .tuple #[.agg #[.int .i64 0, .slice none 0 0], .int .i64 (20)]) (by simp [results, Try.results51, go_sem, f0, f1]) rfl ⟨⟨_, rfl, Or.inl ⟨by rw [E.out]; decide, by rw [E.out]⟩⟩, HBW.out⟩
  have HAT := Lib.hid hj2
  have g4 : decide ((j : Int) < 0) = false := decide_eq_false (by omega)
  obtain ⟨x, hx⟩ : ∃ x, m.nodes[j] = x := ⟨_, rfl⟩
  have HX : Hid (x ∈ m.nodes ∧ x.id = id) := Lib.hid ⟨by rw [← hx]; exact List.getElem_mem hj, by rw [← hx]; exact hj1⟩
  have HXO : Hid (nodeOf m id = x) := Lib.hid (by rw [← HX.out.2]; exact HCM.out.tree.nodeOf HX.out.1)
  have E := Lib.hid (show EE = 0 from HEE.out.symm.trans (removeE_ok HCM.out (by rw [hj2]; omega)))
  obtain ⟨LB, hLB⟩ : ∃ L, belowL m id = L := ⟨_, rfl⟩
  have HLBE := Lib.hid hLB
  have hlb : LB.length ≤ 4096 := by have := HCM.out.tree.below_len HX.out.1; rw [HX.out.2, hLB, HN.out] at this; omega
  clear hj1 hj2 hx hLB
  go_enter Try.func51, Try.ntmps51
  go_wp2_with fail
  (try rw [HU0.out])
  refine HC2.out.mono ?_
  rintro _ u1 ⟨rfl, hb⟩
  replace HB_w : Hid (Below w.heap.size w u1) := Lib.hid (HB_w.out.trans (hb.mono HB_w.out.size))
  replace HM := Lib.hid (HM.out.below hb HM.out.lt)
  replace HR := Lib.hid (HR.out.below hb HR.out.lt)
  clear hb HU0 HC2
  have HMc0 := HM.out.cell 0
  have HMc1 := HM.out.cell 1
  have HMlt := HM.out.lt
  simp at HMc0 HMc1
  have HPL := Lib.hid (place_any A c m.next id m.nodes u1 F (fun b hb => Nat.lt_of_lt_of_le (hF b hb) HB_w.out.size) (HH.out.keep ENode.stays (Keep.below HB_w.out hF) (fun _ h => h)) HS.out hid (by rw [HN.out]; omega))
  rw [HAT.out, HN.out] at HPL
  go_wp2_with fail
  refine (HPL.out).mono ?_
  rintro _ u2 ⟨rfl, hb⟩
  replace HB_w : Hid (Below w.heap.size w u2) := Lib.hid (HB_w.out.trans (hb.mono HB_w.out.size))
  replace HM := Lib.hid (HM.out.below hb HM.out.lt)
  replace HR := Lib.hid (HR.out.below hb HR.out.lt)
  clear hb
  clear HPL HMc0 HMc1 HMlt
  have HSM : Hid (∀ w', Blk w' w.heap.size 24 #[.int .i64 m.next, .slice A n c] → w'.cell? ⟨w.heap.size, 0, none⟩ = some (.int .i64 m.next) ∧ w'.cell? ⟨w.heap.size, 1, none⟩ = some (.slice A n c)) := Lib.hid (fun w' h => by
    have a := h.cell 0; have b := h.cell 1
    simp at a b
    exact ⟨a, b⟩)
  have HUD := Lib.hid (fun (w' : World) (hb : Below w.heap.size w w') => under_any A c m w' F (fun b hb2 => Nat.lt_of_lt_of_le (hF b hb2) hb.size) (HH.out.keep ENode.stays (Keep.below hb hF) (fun _ h => h)) HCM.out.tree HS.out HRK.out (by rw [HN.out]; omega) x HX.out.1)
  rw [HN.out, HX.out.2, HLBE.out] at HUD
  have HMc0 := HM.out.cell 0
  have HMc1 := HM.out.cell 1
  have HMlt := HM.out.lt
  simp at HMc0 HMc1
  go_wp2_with fail
  refine (HUD.out _ HB_w.out).mono ?_
  rintro _ u3 ⟨vl, rfl, hown, hb⟩
  obtain ⟨Al, cl, rfl⟩ := hown.shape
  have HOI : Hid (OwnI u3 (w.heap.size + 2) (.slice Al LB.length cl) LB) := Lib.hid (hown.weaken (by have := HR.out.lt; omega))
  replace HB_w : Hid (Below w.heap.size w u3) := Lib.hid (HB_w.out.trans (hb.mono HB_w.out.size))
  replace HM := Lib.hid (HM.out.below hb HM.out.lt)
  replace HR := Lib.hid (HR.out.below hb HR.out.lt)
  clear hown hb HUD HSM HMc0 HMc1 HMlt
  have HOI1 := Lib.hid (OwnI.alloc HOI.out (.cells #[.int .i64 id] 3))
  have HR3 := HR.out.lt
  go_wp2_with (at_builtin; refine wpList_pushI rfl (.tmp 19) (.tmp 21) rfl ?a1 HOI1.out id u3.heap.size ?a2 ?a3 ?a4 ?a5 ?a6)
  case a1 => rfl
  case a2 => rfl
  case a3 => exact Blk.new _ _ _
  case a4 => omega
  case a5 => simp; omega
  case a6 =>
    intro A2 c2 u4 own2 hg2 _
    have hga : Below u3.heap.size u3 (u3.alloc (.cells #[.int .i64 id] 3)) := (Below.refl _ _).alloc (Nat.le_refl _) _
    replace HB_w : Hid (Below w.heap.size w u4) := Lib.hid ((HB_w.out.trans (hga.mono HB_w.out.size)).grown hg2 (by have := HB_w.out.size; have := hga.size; omega) (fun k e => by have := (HOI.out.lt k e).1; omega))
    replace HM := Lib.hid ((HM.out.below hga HM.out.lt).grown hg2 (fun e => by have := (HOI.out.lt _ e.symm).1; omega))
    replace HR := Lib.hid ((HR.out.below hga HR.out.lt).grown hg2 (fun e => by have := (HOI.out.lt _ e.symm).1; omega))
    have HOA := Lib.hid own2
    have HBO : Hid (Below u4.heap.size u4 u4) := Lib.hid (Below.refl _ _)
    clear own2 hg2 hga HOI HOI1 HR3
    obtain ⟨g, hgs⟩ : ∃ g, u4.heap.size = g := ⟨_, rfl⟩
    have HGG := Lib.hid hgs
    clear hgs
    obtain ⟨u1, hu⟩ : ∃ u : World, u4.alloc (.cells #[.slice A2 (LB.length + 1) c2] 35) = u := ⟨_, rfl⟩
    have HBU : Below u4.heap.size u4 u1 := by rw [← hu]; exact (Below.refl _ _).alloc (Nat.le_refl _) _
    have HG : Hid (Blk u1 u4.heap.size 35 #[.slice A2 (LB.length + 1) c2]) := Lib.hid (by rw [← hu]; exact Blk.new _ _ _)
    have HUE := Lib.hid hu
    clear hu
    replace HB_w : Hid (Below w.heap.size w u1) := Lib.hid (HB_w.out.trans (HBU.mono HB_w.out.size))
    replace HM := Lib.hid (HM.out.below HBU HM.out.lt)
    replace HR := Lib.hid (HR.out.below HBU HR.out.lt)
    clear HBU
    have hown : OwnI u1 (w.heap.size + 2) (.slice A2 (LB.length + 1) c2) (LB ++ [id]) := OwnI.below HOA.out (show Below u4.heap.size u4 u1 from by rw [← HUE.out]; exact (Below.refl _ _).alloc (Nat.le_refl _) _)
    have HNE : Hid (∀ k, (Value.slice A2 (LB.length + 1) c2).ownBlock = some k → k ≠ g) := Lib.hid (fun k e => by have := (HOA.out.lt k e).2; have := HGG.out; omega)
    rw [HGG.out] at HG
    have hlen : (LB ++ [id]).length = LB.length + 1 := by simp
    obtain ⟨GS, hGS⟩ : ∃ z, (LB ++ [id]).mergeSort (fun x y => decide (x ≤ y)) = z := ⟨_, rfl⟩
    have HSO := Lib.hid (sortOwn_any (.slice A2 (LB.length + 1) c2) (LB ++ [id]) u1 (w.heap.size + 2) hown (by rw [hlen]; omega))
    have HOL := Lib.hid hown.lt
    rw [hGS] at HSO
    have HGSM : Hid (∀ k, k ∈ GS ↔ k ∈ LB ++ [id]) := Lib.hid (fun k => by rw [← hGS, List.mem_mergeSort])
    have HGSS : Hid (GS.Pairwise (· ≤ ·)) := Lib.hid (by
      rw [← hGS]
      exact (List.pairwise_mergeSort (le := fun x y : Int => decide (x ≤ y)) (fun a b c h1 h2 => by simp at *; omega) (fun a b => by simp; omega) _).imp (fun h => by simpa using h))
    have hGSl : GS.length = LB.length + 1 := by rw [← hGS, List.length_mergeSort, hlen]
    clear hown hGS hlen HOA HBO
    go_upto_region 6 with fail
    rw [HUE.out, HGG.out]
    clear HUE HGG
    have HGc0 := HG.out.cell 0
    have HGlt := HG.out.lt
    simp at HGc0
    go_wp2_with fail
    refine HSO.out.mono ?_
    rintro _ u5 ⟨rfl, hown, hg⟩
    have HG4 := Lib.hid (HG.out.grown hg (fun e => HNE.out _ e.symm rfl))
    replace HM := Lib.hid (HM.out.grown hg (fun e => by have := (HOL.out _ e.symm).1; omega))
    replace HR := Lib.hid (HR.out.grown hg (fun e => by have := (HOL.out _ e.symm).1; omega))
    replace HB_w : Hid (Below w.heap.size w u5) := Lib.hid (HB_w.out.grown hg HB_w.out.size (fun k e => by have := (HOL.out k e).1; omega))
    have HOG := Lib.hid hown
    clear hown hg HSO HOL HGc0 HGlt HG
    have HG := HG4
    clear HG4
    have HMc0 := HM.out.cell 0
    have HMc1 := HM.out.cell 1
    have HMlt := HM.out.lt
    simp at HMc0 HMc1
    have HTW := Lib.hid (twinA_any A c m u5 F (fun b hb => Nat.lt_of_lt_of_le (hF b hb) HB_w.out.size) (HH.out.keep ENode.stays (Keep.below HB_w.out hF) (fun _ h => h)) HZ'.out (by rw [HN.out]; omega))
    rw [HN.out] at HTW
    go_wp2_with fail
    refine HTW.out.mono ?_
    rintro _ ut ⟨vt, rfl, l, hown, hlm, hb⟩
    have HBASE : Hid (w.heap.size + 2 ≤ u5.heap.size ∧ g < u5.heap.size ∧ ∀ k, (Value.slice A2 (LB.length + 1) c2).ownBlock = some k → k < u5.heap.size) := Lib.hid ⟨by have := HR.out.lt; omega, HG.out.lt, fun k e => (HOG.out.lt k e).2⟩
    replace HOG := Lib.hid (OwnI.below HOG.out hb)
    replace HB_w : Hid (Below w.heap.size w ut) := Lib.hid (HB_w.out.trans (hb.mono HB_w.out.size))
    replace HM := Lib.hid (HM.out.below hb HM.out.lt)
    replace HR := Lib.hid (HR.out.below hb HR.out.lt)
    replace HG := Lib.hid (HG.out.below hb HG.out.lt)
    have hll : l.length = n := by rw [← HN.out, ← hlm, List.length_map]
    obtain ⟨At, ct, rfl⟩ := own_shape hown.row
    rw [hll] at hown ⊢
    have HO := Lib.hid hown; have HLM := Lib.hid hlm; have HBT : Hid (u5.heap.size ≤ ut.heap.size) := Lib.hid hb.size
    clear hb hown hlm HTW HMc0 HMc1 HMlt
    obtain ⟨u2, hu⟩ : ∃ u : World, ut.alloc (.cells #[.int .i64 m.next, .slice At n ct] 24) = u := ⟨_, rfl⟩
    have HBU : Below ut.heap.size ut u2 := by rw [← hu]; exact (Below.refl _ _).alloc (Nat.le_refl _) _
    have HP : Hid (Blk u2 ut.heap.size 24 #[.int .i64 m.next, .slice At n ct]) := Lib.hid (by rw [← hu]; exact Blk.new _ _ _)
    have HUE := Lib.hid hu
    clear hu
    replace HB_w : Hid (Below w.heap.size w u2) := Lib.hid (HB_w.out.trans (HBU.mono HB_w.out.size))
    replace HM := Lib.hid (HM.out.below HBU HM.out.lt)
    replace HR := Lib.hid (HR.out.below HBU HR.out.lt)
    replace HG := Lib.hid (HG.out.below HBU HG.out.lt)
    clear HBU
    replace HO := Lib.hid (HO.out.below (show Below ut.heap.size ut u2 from by rw [← HUE.out]; exact (Below.refl ut.heap.size ut).alloc (Nat.le_refl _) _))
    replace HOG := Lib.hid (OwnI.below HOG.out (show Below ut.heap.size ut u2 from by rw [← HUE.out]; exact (Below.refl ut.heap.size ut).alloc (Nat.le_refl _) _))
    have HPB : Hid (u5.heap.size ≤ ut.heap.size) := HBT
    go_upto_region 8 with fail
    (try rw [HUE.out])
    (try clear HUE)
    have HPc0 := HP.out.cell 0
    have HPc1 := HP.out.cell 1
    have HPlt := HP.out.lt
    simp at HPc0 HPc1
    have HUN := Lib.hid (unhang_any m.next (.slice At n ct) l u2 u5.heap.size (OB u5.heap.size ut.heap.size) (HO.out.ob HP.out) HO.out (by have := HP.out.lt; have := HPB.out; omega) (by rw [HLM.out]; exact HS.out) (by rw [HO.out.len_map HLM.out, HN.out]; omega) (by rw [HLM.out]; exact check_kids4 HCM.out) x (by rw [HLM.out]; exact HX.out.1) (by rw [HLM.out]; exact check_parent HCM.out HX.out.1))
    rw [HLM.out, HX.out.2] at HUN
    go_wp2_with fail
    refine HUN.out.mono ?_
    rintro _ un ⟨rfl, l1, hown, hlm, hk⟩
    have HO1 := Lib.hid hown
    have HL1 : Hid (l1.map LN.n = (mu m x).nodes) := Lib.hid (by rw [hlm]; show _ = unhangN m.nodes x.parent x.id; rw [HX.out.2])
    have hno1 : ¬ OB u5.heap.size ut.heap.size w.heap.size := fun h => by have := h.1; have := HBASE.out.1; omega
    have hno2 : ¬ OB u5.heap.size ut.heap.size (w.heap.size + 1) := fun h => by have := h.1; have := HBASE.out.1; omega
    have hno3 : ¬ OB u5.heap.size ut.heap.size ut.heap.size := fun h => h.2 rfl
    have hno4 : ¬ OB u5.heap.size ut.heap.size g := fun h => by have := h.1; have := HBASE.out.2.1; omega
    replace HM := Lib.hid (hk.blk HM.out hno1)
    replace HR := Lib.hid (hk.blk HR.out hno2)
    replace HP := Lib.hid (hk.blk HP.out hno3)
    replace HG := Lib.hid (hk.blk HG.out hno4)
    replace HOG := Lib.hid (hk.ownI HOG.out (fun b e h => by have := h.1; have := HBASE.out.2.2 b e; omega))
    replace HB_w : Hid (Below w.heap.size w un) := Lib.hid (HB_w.out.trans (hk.toBelow HB_w.out.size (fun b h => by have := h.1; have := HBASE.out.1; omega)))
    clear hown hlm hk HUN HPc0 HPc1 HPlt hno1 hno2 hno3 hno4
    have hl1 : l1.length = n := by rw [HO1.out.len_map HL1.out, mu_len, HN.out]
    have HGR : Hid (∀ w', un.grownBy w' (Value.slice At n ct).ownBlock → Blk w' g 35 #[.slice A2 GS.length c2] ∧ RowOf 1 EInt w' (fun b => b < w'.heap.size) A2 GS) := Lib.hid (fun w' hg => by
      have hne1 : ∀ b, (Value.slice At n ct).ownBlock = some b → u5.heap.size ≤ b := fun b e => (HO1.out.row.lt b e).1
      refine ⟨by rw [hGSl]; exact HG.out.grown hg (fun e => by have := hne1 _ e.symm; have := HBASE.out.2.1; omega), ?_⟩
      have h1 : OwnI w' (w.heap.size + 2) (.slice A2 (LB.length + 1) c2) GS := own_keep HOG.out (fun b e => hg.block b (HOG.out.lt b e).2 (fun e2 => by have := hne1 _ e2.symm; have := HBASE.out.2.2 b e; omega))
      obtain ⟨A', c', e, _, _, h3⟩ := h1.isRow (F := fun b => b < w'.heap.size) (fun b _ h => h)
      injection e with e1; subst e1; exact h3)
    have HDQ := Lib.hid (delNodeQ_any (.slice At n ct) l1 (fun y => decide (y.n.id ∈ GS)) g un u5.heap.size HO1.out.row (fun y hy => (HO1.out.lists y hy).shape) (fun y hy w' hg => remove1_any y (HO1.out.lists y hy).shape g A2 c2 GS w' (fun b => b < w'.heap.size) (fun b h => h) (HGR.out w' hg).2 (by omega) HGSS.out (HGR.out w' hg).1) (by omega))
    clear HGR
    have HPc0 := HP.out.cell 0
    have HPc1 := HP.out.cell 1
    have HPlt := HP.out.lt
    simp at HPc0 HPc1
    go_wp2_with fail
    refine HDQ.out.mono ?_
    rintro _ uz ⟨v9, rfl, hrow, hg, hvo⟩
    have HO2 := Lib.hid (HO1.out.drop_nodes _ hrow hg hvo)
    have hne1 : ∀ b, (Value.slice At n ct).ownBlock = some b → u5.heap.size ≤ b := fun b e => (HO1.out.row.lt b e).1
    have HNP : Hid (∀ b, some b ∈ (v9.ownBlock :: allBlocks (keepQ (fun y : LN => decide (y.n.id ∈ GS)) l1)) → b ≠ ut.heap.size) := Lib.hid (fun b hb => by
      rcases List.mem_cons.1 hb with hb | hb
      · rw [hvo] at hb
        exact HO1.out.ne_blk HP.out b (by rw [hb]; exact List.mem_cons_self ..)
      · exact HO1.out.ne_blk HP.out b (List.mem_cons_of_mem _ ((sub_flat _ _).subset hb)))
    have HVP : Hid ((Value.slice At n ct).ownBlock ≠ some ut.heap.size) := Lib.hid (fun e => HO1.out.ne_blk HP.out ut.heap.size (by rw [e]; exact List.mem_cons_self ..) rfl)
    replace HP := Lib.hid (HP.out.grown hg (fun e => HVP.out e.symm))
    replace HR := Lib.hid (HR.out.grown hg (fun e => by have := hne1 _ e.symm; have := HBASE.out.1; omega))
    replace HB_w : Hid (Below w.heap.size w uz) := Lib.hid (HB_w.out.grown hg HB_w.out.size (fun k e => by have := hne1 k e; have := HBASE.out.1; omega))
    have HFIN : Hid ((keepQ (fun y : LN => decide (y.n.id ∈ GS)) l1).map LN.n = LL) := Lib.hid (by
      rw [map_keepQ (fun k => decide (k ∈ GS)), HL1.out, ← HLL.out]
      unfold removeL
      rw [HXO.out, HLBE.out]
      congr 1
      funext y
      rw [show decide (y.id ∈ GS) = decide (y.id ∈ LB ++ [id]) from decide_eq_decide.2 (HGSM.out y.id)])
    obtain ⟨A9, c9, rfl⟩ := own_shape hrow
    clear hrow hg hvo HDQ HPc0 HPc1 HPlt HM HG HOG HO1 hne1
    have p0 := HP.out.cell 0; have p1 := HP.out.cell 1
    have hplt := HP.out.lt
    have tp0 := HP.out.frozen 0; have tp1 := HP.out.frozen 1
    simp at p0 p1
    obtain ⟨kn, hkn⟩ : ∃ z, (keepQ (fun y : LN => decide (y.n.id ∈ GS)) l1).length = z := ⟨_, rfl⟩
    rw [hkn] at HO2 HNP ⊢
    clear hkn
    go_upto_region 10 with fail
    obtain ⟨uy, huy⟩ : ∃ u : World, uz.setCell ⟨ut.heap.size, 1, none⟩ (.slice A9 kn c9) = u := ⟨_, rfl⟩
    have HUY := Lib.hid huy
    have HP2 : Hid (Blk uy ut.heap.size 24 #[.int .i64 m.next, .slice A9 kn c9]) := Lib.hid (by rw [← huy]; exact HP.out.set_ 1 (.slice A9 kn c9))
    have hb : Below ut.heap.size uz uy := by rw [← huy]; exact (Below.refl _ _).setCell (p := ⟨ut.heap.size, 1, none⟩) (Nat.le_refl _) _
    have hut : w.heap.size + 2 ≤ ut.heap.size := by have := HBASE.out.1; have := HPB.out; omega
    replace HR := Lib.hid (HR.out.below hb (by omega))
    replace HB_w := Lib.hid (HB_w.out.trans (hb.mono (by omega)))
    have HO3 : Hid (OwnM uy u5.heap.size (.slice A9 kn c9) (keepQ (fun y : LN => decide (y.n.id ∈ GS)) l1)) := Lib.hid (by
      rw [← huy]
      exact ⟨own_keep HO2.out.row (fun b e => Below.heap_setCell _ _ _ _ (HNP.out b (by rw [e]; exact List.mem_cons_self ..))), fun y hy => (HO2.out.lists y hy).keep (fun b e => Below.heap_setCell _ _ _ _ (HNP.out b (List.mem_cons_of_mem _ (mem_all hy e)))), HO2.out.dis⟩)
    rw [huy]
    clear huy hb p0 p1 hplt tp0 tp1 HP HO2
    have p0 := HP2.out.cell 0; have p1 := HP2.out.cell 1
    have hplt := HP2.out.lt
    simp at p0 p1
    have t0 := HR.out.frozen 0; have t1 := HR.out.frozen 1
    have r0 := HR.out.cell 0; have r1 := HR.out.cell 1
    have hrlt := HR.out.lt
    simp at r0 r1
    go_wp2_with fail
    have hyS := (HR.out.set_ 0 (.int .i64 m.next)).set_ 1 (.slice A9 kn c9)
    have f0 := hyS.cell 0; have f1 := hyS.cell 1
    simp at f0 f1
    have HBW := Lib.hid ((HB_w.out.setCell (p := ⟨w.heap.size + 1, 0, none⟩) (by show w.heap.size ≤ w.heap.size + 1; omega) (.int .i64 m.next)).setCell (p := ⟨w.heap.size + 1, 1, none⟩) (by show w.heap.size ≤ w.heap.size + 1; omega) (.slice A9 kn c9))
    refine bodyPost_ret (v := .tuple #[.agg #[.int .i64 m.next, .slice A9 kn c9], .int .i64 0]) (by simp [results, Try.results51, go_sem, f0, f1]) rfl ⟨⟨_, rfl, Or.inr ⟨E.out, _, rfl, ?_⟩⟩, HBW.out⟩
    rw [← HFIN.out]
    refine (HO3.out.keep (w' := (uy.setCell ⟨w.heap.size + 1, 0, none⟩ (.int .i64 m.next)).setCell ⟨w.heap.size + 1, 1, none⟩ (.slice A9 kn c9)) (fun b h1 _ => ?_)).isRow (fun b h1 h2 => ⟨by have := HBASE.out.1; omega, h2⟩)
    have := HBASE.out.1
    exact (Below.heap_setCell _ _ _ _ (by show b ≠ w.heap.size + 1; omega)).trans (Below.heap_setCell _ _ _ _ (by show b ≠ w.heap.size + 1; omega))
end Go.Proofs.Ytmafhaadcjgcbaa
end
section
/- a node is taken away with all below it, as the document has it: which are gone -/
namespace Go.Proofs.Ytmafhaadcjgcbaa
open Go Go.RowKit

def flagL (m : AModel) (s : List Int) : List Bool := m.nodes.map fun y => decide (y.id ∈ s)
theorem flagL_len (m : AModel) (s : List Int) : (flagL m s).length = m.nodes.length := by simp [flagL]
theorem flagL_nil (m : AModel) : List.replicate m.nodes.length false = flagL m [] := by
  unfold flagL
  apply List.ext_getElem
  · simp
  · intro i h1 h2; simp
theorem flagL_set {m : AModel} (hs : Srt m.nodes) {t : Nat} (ht : t < m.nodes.length) {k : Int} (e : m.nodes[t].id = k) (s : List Int) : (flagL m s).set t true = flagL m (s ++ [k]) := by
  subst e
  unfold flagL
  apply List.ext_getElem
  · simp
  · intro i h1 h2
    have hi : i < m.nodes.length := by simpa using h2
    by_cases hij : t = i
    · subst hij; simp
    · rw [List.getElem_set_ne hij, List.getElem_map, List.getElem_map]
      apply decide_eq_decide.2
      constructor
      · exact fun h => List.mem_append_left _ h
      · intro h
        rcases List.mem_append.1 h with h | h
        · exact h
        · simp at h; exact absurd (hs.inj hi ht h).symm hij
theorem flagL_at {m : AModel} {s : List Int} {i : Nat} (hi : i < (flagL m s).length) (h : i < m.nodes.length) : (flagL m s)[i] = decide (m.nodes[i].id ∈ s) := by simp [flagL]
/-- what is owned piece by piece reads as a row of nodes -/
theorem rowLN {w : World} {base base' : Nat} {v : Value} {l : List LN} {F : Nat → Prop} (hr : w.ownsRow base 38 7 v l.length (l.flatMap LN.cells)) (ho : ∀ x ∈ l, OwnL w base' x) (hF : ∀ b, base ≤ b → b < w.heap.size → F b) (hF' : ∀ b, base' ≤ b → b < w.heap.size → F b) : IsRow 7 ENode w F v (l.map LN.n) := by
  obtain ⟨A, c, e, h1, h2, h3⟩ := IsRow.of_own (F := F) LN.cells_len hr (own_at hr hF)
  refine ⟨A, c, by simpa using e, by simpa using h1, h2, fun hn => h3.1 (by simpa using hn), fun i hi => ?_⟩
  have hi' : i < l.length := by simpa using hi
  obtain ⟨cs, hl, hx, hc⟩ := h3.2 i hi'
  refine ⟨cs, hl, ?_, hc⟩
  have ho := ho l[i] (List.getElem_mem hi')
  rw [List.getElem_map]
  unfold EFlat at hx
  subst hx
  exact ⟨l[i].p, l[i].k, l[i].r, rfl, IsRow.of_own propCells_len ho.p (own_at ho.p hF'), ho.k.isRow hF', IsRow.of_own refCells_len ho.r (own_at ho.r hF')⟩
theorem own_belowQ {w w' : World} {base size n : Nat} {e : TypeId} {v : Value} {xs : List Value} (h : w.ownsRow base e size v n xs) (hb : Below w.heap.size w w') : w'.ownsRow base e size v n xs := own_keep h fun b e => hb.block b (h.lt b e).2
theorem keep_take_yes {l : List LN} {p : LN → Bool} {i : Nat} (hi : i < l.length) (h : p l[i] = false) : keepQ p (l.take (i + 1)) = keepQ p (l.take i) ++ [l[i]] := by
  unfold keepQ
  rw [List.take_succ_eq_append_getElem hi, List.filter_append]
  simp [h]
theorem keep_take_no {l : List LN} {p : LN → Bool} {i : Nat} (hi : i < l.length) (h : p l[i] = true) : keepQ p (l.take (i + 1)) = keepQ p (l.take i) := by
  unfold keepQ
  rw [List.take_succ_eq_append_getElem hi, List.filter_append]
  simp [h]
theorem ids_at {m : AModel} {x : ANode} {l : List LN} (e : l.map LN.n = (mu m x).nodes) {i : Nat} (hi : i < l.length) (hm : i < m.nodes.length) : l[i].n.id = m.nodes[i].id := by
  have h1 := congrArg (fun ns : List ANode => ns.map (·.id)) e
  rw [mu_ids2] at h1
  have h2 := congrArg (fun ks : List Int => ks[i]?) h1
  simp [hi, hm] at h2
  exact h2
end Go.Proofs.Ytmafhaadcjgcbaa
end
section
/- the document's Remove -/
namespace Go.Proofs.Ytmafhaadcjgcbaa
open Go Go.RowKit

set_option maxRecDepth 100000 in
set_option maxHeartbeats 8000000 in
theorem removeR_any (A : Option Addr) (c : Nat) (m : AModel) (w : World) (F : Nat → Prop) (hF : ∀ b, F b → b < w.heap.size) (h : RowOf 7 ENode w F A m.nodes) (hz : ∀ x ∈ m.nodes, NodeOK x) (hz' : ∀ x ∈ m.nodes, LensOK x) (hl : m.nodes.length ≤ 9223372036854775807) (id : Int) (hid : InR id) :
    Calls Try.prog 52 #[.agg #[.int .i64 m.next, .slice A m.nodes.length c], .int .i64 id] w fun e w' => (∃ v, e = .returned v ∧ ResAs w' w.heap.size m.next (removeE m id) (removeL m id) v) ∧ Below w.heap.size w w' := by
  obtain ⟨EE, hEE⟩ : ∃ EE, removeE m id = EE := ⟨_, rfl⟩
  obtain ⟨LL, hLL⟩ : ∃ LL, removeL m id = LL := ⟨_, rfl⟩
  rw [hEE, hLL]
  have HEE := Lib.hid hEE; have HLL := Lib.hid hLL
  clear hEE hLL
  have HH := Lib.hid h; have HZ := Lib.hid hz; have HZ' := Lib.hid hz'; have HLB := Lib.hid hl
  obtain ⟨n, hn⟩ : ∃ n, m.nodes.length = n := ⟨_, rfl⟩
  have HN := Lib.hid hn
  rw [hn] at hl ⊢
  clear h hz hz' hn
  obtain ⟨u0, hu0⟩ : ∃ u : World, (w.alloc (.cells #[.int .i64 m.next, .slice A n c] 24)).alloc (.cells #[.int .i64 0, .slice none 0 0] 24) = u := ⟨_, rfl⟩
  have HM : Hid (Blk u0 w.heap.size 24 #[.int .i64 m.next, .slice A n c]) := Lib.hid (by rw [← hu0]; exact (Blk.new w _ _).alloc _)
  have HR : Hid (Blk u0 (w.heap.size + 1) 24 #[.int .i64 0, .slice none 0 0]) := Lib.hid (by rw [← hu0]; exact Blk.new' (by simp))
  have hb : Below w.heap.size w u0 := by rw [← hu0]; exact ((Below.refl w.heap.size w).alloc (Nat.le_refl _) _).alloc (by simp) _
  have HU0 := Lib.hid hu0
  clear hu0
  have HB_w : Hid (Below w.heap.size w u0) := Lib.hid hb
  clear hb
  have HC := Lib.hid (right_any A c m u0 F (fun b hb => Nat.lt_of_lt_of_le (hF b hb) HB_w.out.size) (HH.out.keep ENode.stays (Keep.below HB_w.out hF) (fun _ h => h)) (fun x hx => (HZ.out x hx).1) HLB.out)
  rw [HN.out] at HC
  have HCC : Hid (Calls Try.prog 55 #[.agg #[.int .i64 m.next, .slice A n c]] u0 fun e w' => e = .returned (.bool (rightM m)) ∧ Below u0.heap.size u0 w') := HC
  clear HC
  by_cases hc : CheckM m
  rotate_left 1
  · have HC2 := Lib.hid (res_is (rightM_is.2 hc) HCC.out)
    have E := Lib.hid (show EE = 29 from HEE.out.symm.trans (removeE_check hc))
    clear hc HCC
    go_enter Try.func52, Try.ntmps52
    go_wp2_with fail
    (try rw [HU0.out])
    refine HC2.out.mono ?_
    rintro _ u1 ⟨rfl, hb⟩
    replace HB_w : Hid (Below w.heap.size w u1) := Lib.hid (HB_w.out.trans (hb.mono HB_w.out.size))
    replace HM := Lib.hid (HM.out.below hb HM.out.lt)
    replace HR := Lib.hid (HR.out.below hb HR.out.lt)
    clear hb HU0 HC2
    have t0 := HR.out.frozen 0; have t1 := HR.out.frozen 1
    have r0 := HR.out.cell 0; have r1 := HR.out.cell 1
    have hrlt := HR.out.lt
    simp at r0 r1
    go_wp2_with fail
    have hyS := (HR.out.set_ 0 (.int .i64 0)).set_ 1 (.slice none 0 0)
    have f0 := hyS.cell 0; have f1 := hyS.cell 1
    simp at f0 f1
    have HBW := Lib.hid ((HB_w.out.setCell (p := ⟨w.heap.size + 1, 0, none⟩) (by show w.heap.size ≤ w.heap.size + 1; omega) (.int .i64 0)).setCell (p := ⟨w.heap.size + 1, 1, none⟩) (by show w.heap.size ≤ w.heap.size + 1; omega) (.slice none 0 0))
    exact bodyPost_ret (v := .tuple #[.agg #[.int .i64 0, .slice none 0 0], .int .i64 (29)]) (by simp [results, Try.results52, go_sem, f0, f1]) rfl ⟨⟨_, rfl, Or.inl ⟨by rw [E.out]; decide, by rw [E.out]⟩⟩, HBW.out⟩
  have HC2 := Lib.hid (res_is (rightM_is.1 hc) HCC.out)
  have HK4 := Lib.hid hc.kids4
  have HCM := Lib.hid hc
  have HS := Lib.hid hc.1.srtB
  have hl4 : n ≤ 4096 := by rw [← HN.out]; exact hc.1.1.2.2
  clear hc HCC HLB
  rcases atI_cases m.nodes id with ⟨j, hj, hj1, hj2⟩ | ⟨hj1, hj2⟩
  rotate_left 1
  · have HAT := Lib.hid hj2
    have E := Lib.hid (show EE = 20 from HEE.out.symm.trans (removeE_node HCM.out (by rw [hj2]; omega)))
    clear hj1 hj2
    go_enter Try.func52, Try.ntmps52
    go_wp2_with fail
    (try rw [HU0.out])
    refine HC2.out.mono ?_
    rintro _ u1 ⟨rfl, hb⟩
    replace HB_w : Hid (Below w.heap.size w u1) := Lib.hid (HB_w.out.trans (hb.mono HB_w.out.size))
    replace HM := Lib.hid (HM.out.below hb HM.out.lt)
    replace HR := Lib.hid (HR.out.below hb HR.out.lt)
    clear hb HU0 HC2
    have HMc0 := HM.out.cell 0
    have HMc1 := HM.out.cell 1
    have HMlt := HM.out.lt
    simp at HMc0 HMc1
    have HPL := Lib.hid (at_any A c m.next id m.nodes u1 F (fun b hb => Nat.lt_of_lt_of_le (hF b hb) HB_w.out.size) (HH.out.keep ENode.stays (Keep.below HB_w.out hF) (fun _ h => h)) HS.out.1 (by rw [HN.out]; omega))
    rw [HAT.out, HN.out] at HPL
    go_wp2_with fail
    refine (HPL.out).mono ?_
    rintro _ u2 ⟨rfl, hb⟩
    replace HB_w : Hid (Below w.heap.size w u2) := Lib.hid (HB_w.out.trans (hb.mono HB_w.out.size))
    replace HM := Lib.hid (HM.out.below hb HM.out.lt)
    replace HR := Lib.hid (HR.out.below hb HR.out.lt)
    clear hb
    clear HPL HMc0 HMc1 HMlt
    have g4 : decide ((-1 : Int) < 0) = true := by decide
    have t0 := HR.out.frozen 0; have t1 := HR.out.frozen 1
    have r0 := HR.out.cell 0; have r1 := HR.out.cell 1
    have hrlt := HR.out.lt
    simp at r0 r1
    go_wp2_with fail
    have hyS := (HR.out.set_ 0 (.int .i64 0)).set_ 1 (.slice none 0 0)
    have f0 := hyS.cell 0; have f1 := hyS.cell 1
    simp at f0 f1
    have HBW := Lib.hid ((HB_w.out.setCell (p := ⟨w.heap.size + 1, 0, none⟩) (by show w.heap.size ≤ w.heap.size + 1; omega) (.int .i64 0)).setCell (p := ⟨w.heap.size + 1, 1, none⟩) (by show w.heap.size ≤ w.heap.size + 1; omega) (.slice none 0 0))
    exact bodyPost_ret (v := .tuple #[.agg #[.int .i64 0, .slice none 0 0], .int .i64 (20)]) (by simp [results, Try.results52, go_sem, f0, f1]) rfl ⟨⟨_, rfl, Or.inl ⟨by rw [E.out]; decide, by rw [E.out]⟩⟩, HBW.out⟩
  have HAT := Lib.hid hj2
  have HJ : Hid (∃ h : j < m.nodes.length, m.nodes[j].id = id) := Lib.hid ⟨hj, hj1⟩
  have g4 : decide ((j : Int) < 0) = false := decide_eq_false (by omega)
  have hjn : j < n := by rw [← HN.out]; exact hj
  obtain ⟨x, hx⟩ : ∃ x, m.nodes[j] = x := ⟨_, rfl⟩
  have HX : Hid (x ∈ m.nodes ∧ x.id = id) := Lib.hid ⟨by rw [← hx]; exact List.getElem_mem hj, by rw [← hx]; exact hj1⟩
  have HXO : Hid (nodeOf m id = x) := Lib.hid (by rw [← HX.out.2]; exact HCM.out.tree.nodeOf HX.out.1)
  have E := Lib.hid (show EE = 0 from HEE.out.symm.trans (removeE_ok HCM.out (by rw [hj2]; omega)))
  obtain ⟨LB, hLB⟩ : ∃ L, belowL m id = L := ⟨_, rfl⟩
  have HLBE := Lib.hid hLB
  have hlb : LB.length ≤ 4096 := by have := HCM.out.tree.below_len HX.out.1; rw [HX.out.2, hLB, HN.out] at this; omega
  have HLBM : Hid (∀ k ∈ LB, ∃ t, ∃ h : t < m.nodes.length, m.nodes[t].id = k) := Lib.hid (fun k hk => by
    obtain ⟨y, hy, e⟩ := HCM.out.tree.below_node x HX.out.1 k (by rw [HX.out.2, hLB]; exact hk)
    obtain ⟨t, ht, rfl⟩ := List.getElem_of_mem hy
    exact ⟨t, ht, e⟩)
  clear hj1 hj2 hx hLB hj
  go_enter Try.func52, Try.ntmps52
  go_wp2_with fail
  (try rw [HU0.out])
  refine HC2.out.mono ?_
  rintro _ u1 ⟨rfl, hb⟩
  replace HB_w : Hid (Below w.heap.size w u1) := Lib.hid (HB_w.out.trans (hb.mono HB_w.out.size))
  replace HM := Lib.hid (HM.out.below hb HM.out.lt)
  replace HR := Lib.hid (HR.out.below hb HR.out.lt)
  clear hb HU0 HC2
  have HMc0 := HM.out.cell 0
  have HMc1 := HM.out.cell 1
  have HMlt := HM.out.lt
  simp at HMc0 HMc1
  have HPL := Lib.hid (at_any A c m.next id m.nodes u1 F (fun b hb => Nat.lt_of_lt_of_le (hF b hb) HB_w.out.size) (HH.out.keep ENode.stays (Keep.below HB_w.out hF) (fun _ h => h)) HS.out.1 (by rw [HN.out]; omega))
  rw [HAT.out, HN.out] at HPL
  go_wp2_with fail
  refine (HPL.out).mono ?_
  rintro _ u2 ⟨rfl, hb⟩
  replace HB_w : Hid (Below w.heap.size w u2) := Lib.hid (HB_w.out.trans (hb.mono HB_w.out.size))
  replace HM := Lib.hid (HM.out.below hb HM.out.lt)
  replace HR := Lib.hid (HR.out.below hb HR.out.lt)
  clear hb
  clear HPL HMc0 HMc1 HMlt
  have HUD := Lib.hid (fun (w' : World) (hb : Below w.heap.size w w') => down_any A c m w' F (fun b hb2 => Nat.lt_of_lt_of_le (hF b hb2) hb.size) (HH.out.keep ENode.stays (Keep.below hb hF) (fun _ h => h)) HCM.out.tree HS.out HK4.out (by rw [HN.out]; omega) x HX.out.1)
  rw [HN.out, HX.out.2, HLBE.out] at HUD
  have HPL := Lib.hid (fun (w' : World) (hb : Below w.heap.size w w') (k : Int) => at_any A c m.next k m.nodes w' F (fun b hb2 => Nat.lt_of_lt_of_le (hF b hb2) hb.size) (HH.out.keep ENode.stays (Keep.below hb hF) (fun _ h => h)) HS.out.1 (by rw [HN.out]; omega))
  rw [HN.out] at HPL
  have hmk : ∀ w0, (Instr.makeSlice 75 (.int .i64 n) (.int .i64 n)).run Try.prog w0 = .ok (.slice (some ⟨w0.heap.size, 0, none⟩) n n) (w0.alloc (.cells (madeCells #[.bool false] n) 4)) := by
    intro w0
    obtain ⟨i, hi, hz, hsize, hby⟩ := info_parts bool_info
    have := run_make (P := Try.prog) w0 75 4 i (.bool false) Try.underlying75 hi hz .i64 .i64 n n (by omega) (by omega) (by rw [hby]; omega) (by omega)
    rw [hsize] at this
    simpa [Value.cells] using this
  have HMc0 := HM.out.cell 0
  have HMc1 := HM.out.cell 1
  have HMlt := HM.out.lt
  simp at HMc0 HMc1
  go_upto_region 6 with fail
  obtain ⟨g, hg⟩ : ∃ g, u2.heap.size = g := ⟨_, rfl⟩
  obtain ⟨u3, hu3⟩ : ∃ u : World, u2.alloc (.cells (madeCells #[.bool false] n) 4) = u := ⟨_, rfl⟩
  have HGB : Hid (Blk u3 g 4 ((flagL m ([])).map Value.bool).toArray) := Lib.hid (by rw [← hu3, ← hg, ← flagL_nil, HN.out]; exact MetB.made _ _)
  have hb : Below u2.heap.size u2 u3 := by rw [← hu3]; exact (Below.refl _ _).alloc (Nat.le_refl _) _
  rw [hu3, hg]
  have hwg : w.heap.size + 2 ≤ g := by have := HR.out.lt; omega
  replace HB_w : Hid (Below w.heap.size w u3) := Lib.hid (HB_w.out.trans (hb.mono HB_w.out.size))
  replace HM := Lib.hid (HM.out.below hb HM.out.lt)
  replace HR := Lib.hid (HR.out.below hb HR.out.lt)
  clear hb hu3 hg hmk HMc0 HMc1 HMlt
  have HMc0 := HM.out.cell 0
  have HMc1 := HM.out.cell 1
  have HMlt := HM.out.lt
  simp at HMc0 HMc1
  have HP1 := Lib.hid (HPL.out u3 HB_w.out id)
  rw [HAT.out] at HP1
  go_wp2_with fail
  refine HP1.out.mono ?_
  rintro _ u4 ⟨rfl, hb⟩
  replace HB_w : Hid (Below w.heap.size w u4) := Lib.hid (HB_w.out.trans (hb.mono HB_w.out.size))
  replace HM := Lib.hid (HM.out.below hb HM.out.lt)
  replace HR := Lib.hid (HR.out.below hb HR.out.lt)
  replace HGB := Lib.hid (HGB.out.below hb HGB.out.lt)
  clear hb HP1 HMc0 HMc1 HMlt
  have hgl := HGB.out.lt
  have c0 := MetB.cell HGB.out (i := j) (by rw [flagL_len, HN.out]; exact hjn)
  have f0 := HGB.out.frozen j
  have j1 : (j : Int) < n := by omega
  have j0 : (0 : Int) ≤ j := by omega
  go_upto_region 7 with fail
  obtain ⟨u5, hu5⟩ : ∃ u : World, u4.setCell ⟨g, j, none⟩ (.bool true) = u := ⟨_, rfl⟩
  have HGB2 : Hid (Blk u5 g 4 ((flagL m ([id])).map Value.bool).toArray) := Lib.hid (by
    obtain ⟨hj, hj1⟩ := HJ.out
    rw [← hu5, show ([id] : List Int) = [] ++ [id] from rfl, ← flagL_set HS.out.1 hj hj1]; exact MetB.set_ HGB.out j true)
  have hb : Below (w.heap.size + 2) u4 u5 := by rw [← hu5]; exact (Below.refl _ _).setCell (p := ⟨g, j, none⟩) hwg _
  rw [hu5]
  replace HM := Lib.hid (HM.out.below hb (by omega))
  replace HR := Lib.hid (HR.out.below hb (by omega))
  replace HB_w : Hid (Below w.heap.size w u5) := Lib.hid (HB_w.out.trans (hb.mono (by omega)))
  clear hb hu5 c0 f0 HGB
  have HGB := HGB2
  clear HGB2
  have HMc0 := HM.out.cell 0
  have HMc1 := HM.out.cell 1
  have HMlt := HM.out.lt
  simp at HMc0 HMc1
  go_wp2_with fail
  refine (HUD.out _ HB_w.out).mono ?_
  rintro _ u6 ⟨vl, rfl, hown, hb⟩
  obtain ⟨Al, cl, rfl⟩ := hown.shape
  obtain ⟨B5, hB5⟩ : ∃ B, u5.heap.size = B := ⟨_, rfl⟩
  have hB5g : g < B5 := by rw [← hB5]; exact HGB.out.lt
  rw [hB5] at hown
  have HOL := Lib.hid hown
  replace HB_w : Hid (Below w.heap.size w u6) := Lib.hid (HB_w.out.trans (hb.mono HB_w.out.size))
  replace HM := Lib.hid (HM.out.below hb HM.out.lt)
  replace HR := Lib.hid (HR.out.below hb HR.out.lt)
  replace HGB := Lib.hid (HGB.out.below hb HGB.out.lt)
  clear hown hb HUD hB5 HMc0 HMc1 HMlt
  go_wp2_with fail
  go_loopg [8] LB.length (fun q s8 wx => ∃ (i : Nat), s8 = .int .i64 i ∧ q = LB.length - i ∧ i ≤ LB.length ∧ Below w.heap.size w wx ∧ Blk wx w.heap.size 24 #[.int .i64 m.next, .slice A n c] ∧ Blk wx (w.heap.size + 1) 24 #[.int .i64 0, .slice none 0 0] ∧ Blk wx g 4 ((flagL m ([id] ++ LB.take i)).map Value.bool).toArray ∧ OwnI wx B5 (.slice Al LB.length cl) LB)
  case atStart => exact ⟨0, rfl, rfl, Nat.zero_le _, HB_w.out, HM.out, HR.out, by rw [List.take_zero]; exact HGB.out, HOL.out⟩
  case round =>
    clear HB_w HM HR HGB HOL
    obtain ⟨i, rfl, rfl, hil, hb, hmb, hrb, hgb, hown⟩ := hrel
    have HB_w := Lib.hid hb; have HM := Lib.hid hmb; have HR := Lib.hid hrb; have HGB := Lib.hid hgb; have HOL := Lib.hid hown
    clear hb hmb hrb hgb
    by_cases hlt : i < LB.length
    · obtain ⟨gl, cap, e, _, _, hgB, _⟩ := own_some hown (by omega)
      injection e with e1 _ e2
      subst e1; subst e2
      clear hown
      obtain ⟨k, hk⟩ : ∃ k, LB[i] = k := ⟨_, rfl⟩
      have HK : Hid (LB.take (i + 1) = LB.take i ++ [k]) := Lib.hid (by rw [List.take_succ_eq_append_getElem hlt, hk])
      obtain ⟨t, ht, htk⟩ := HLBM.out k (by rw [← hk]; exact List.getElem_mem hlt)
      have htn : t < n := by rw [← HN.out]; exact ht
      have HAK : Hid (atI m.nodes k = t) := Lib.hid (by rw [← htk]; exact atI_some HS.out.1 ht rfl)
      have HTK : Hid (∃ h : t < m.nodes.length, m.nodes[t].id = k) := Lib.hid ⟨ht, htk⟩
      have HSX : Hid (∀ w', Blk w' w.heap.size 24 #[.int .i64 m.next, .slice A n c] → OwnI w' B5 (.slice (some ⟨gl, 0, none⟩) LB.length cl) LB → w'.cell? ⟨w.heap.size, 0, none⟩ = some (.int .i64 m.next) ∧ w'.cell? ⟨w.heap.size, 1, none⟩ = some (.slice A n c) ∧ w'.cell? ⟨gl, i, none⟩ = some (.int .i64 k)) := Lib.hid (fun w' h h2 => by
        have a := h.cell 0; have b := h.cell 1
        simp at a b
        have c := own_cell h2 i (by omega)
        rw [List.getElem?_map, List.getElem?_eq_getElem hlt, hk] at c
        exact ⟨a, b, c⟩)
      clear hk ht htk
      have hlt' : (i : Int) < LB.length := by omega
      have i0 : (0 : Int) ≤ i := by omega
      have t1 : (t : Int) < n := by omega
      have t0 : (0 : Int) ≤ t := by omega
      have hs0 := (HSX.out _ HM.out HOL.out).1
      go_upto_region 11 with fail
      clear hs0
      obtain ⟨u, hu⟩ : ∃ u : World, wr.drew = u := ⟨_, rfl⟩
      have hb : Below wr.heap.size wr u := by rw [← hu]; exact (Below.refl _ _).drew
      replace HB_w : Hid (Below w.heap.size w u) := Lib.hid (HB_w.out.trans (hb.mono HB_w.out.size))
      replace HM := Lib.hid (HM.out.below hb HM.out.lt)
      replace HR := Lib.hid (HR.out.below hb HR.out.lt)
      replace HGB := Lib.hid (HGB.out.below hb HGB.out.lt)
      replace HOL := Lib.hid (OwnI.below HOL.out hb)
      clear hb
      refine wp_region_Y (S := (fun w' : World => w'.cell? ⟨w.heap.size, 0, none⟩ = some (.int .i64 m.next) ∧ w'.cell? ⟨w.heap.size, 1, none⟩ = some (.slice A n c) ∧ w'.cell? ⟨gl, i, none⟩ = some (.int .i64 k))) 8 (by kernel_rfl) (by rw [hu]; exact HSX.out _ HM.out HOL.out) (fun hHeld => ?_)
      rw [hu] at hHeld ⊢
      clear hu
      refine wpAnyY_take (i := 0) (v := ?_) rfl (by kernel_rfl) (by kernel_rfl) (by kernel_rfl) (by kernel_rfl) (fun _ _ _ h => h) (Or.inl ⟨by rfl, ?_⟩) (by assumption) ?_
      rotate_left 1
      · (intro w' hSw; obtain ⟨s0, s1, s2⟩ := hSw; go_simp); try with_reducible rfl
      try simp only [Act.put, List.setIfInBounds_toArray, List.set_cons_zero, List.set_cons_succ, Nat.zero_add]
      refine wpAnyY_take (i := 1) (v := ?_) rfl (by kernel_rfl) (by kernel_rfl) (by kernel_rfl) (by kernel_rfl) (fun _ _ _ h => h) (Or.inl ⟨by rfl, ?_⟩) (by assumption) ?_
      rotate_left 1
      · (intro w' hSw; obtain ⟨s0, s1, s2⟩ := hSw; go_simp); try with_reducible rfl
      try simp only [Act.put, List.setIfInBounds_toArray, List.set_cons_zero, List.set_cons_succ, Nat.zero_add]
      refine wpAnyY_take (i := 2) (v := ?_) rfl (by kernel_rfl) (by kernel_rfl) (by kernel_rfl) (by kernel_rfl) (fun _ _ _ h => h) (Or.inl ⟨by rfl, ?_⟩) (by assumption) ?_
      rotate_left 1
      · (intro w' hSw; obtain ⟨s0, s1, s2⟩ := hSw; go_simp); try with_reducible rfl
      try simp only [Act.put, List.setIfInBounds_toArray, List.set_cons_zero, List.set_cons_succ, Nat.zero_add]
      refine wpAnyY_take (i := 3) (v := ?_) rfl (by kernel_rfl) (by kernel_rfl) (by kernel_rfl) (by kernel_rfl) (fun _ _ _ h => h) (Or.inl ⟨by rfl, ?_⟩) (by assumption) ?_
      rotate_left 1
      · (intro w' hSw; obtain ⟨s0, s1, s2⟩ := hSw; go_simp); try with_reducible rfl
      try simp only [Act.put, List.setIfInBounds_toArray, List.set_cons_zero, List.set_cons_succ, Nat.zero_add]
      refine wpAnyY_take (i := 4) (v := ?_) rfl (by kernel_rfl) (by kernel_rfl) (by kernel_rfl) (by kernel_rfl) (fun _ _ _ h => h) (Or.inl ⟨by rfl, ?_⟩) (by assumption) ?_
      rotate_left 1
      · (intro w' hSw; obtain ⟨s0, s1, s2⟩ := hSw; go_simp); try with_reducible rfl
      try simp only [Act.put, List.setIfInBounds_toArray, List.set_cons_zero, List.set_cons_succ, Nat.zero_add]
      refine wpAnyY_take (i := 5) (v := ?_) rfl (by kernel_rfl) (by kernel_rfl) (by kernel_rfl) (by kernel_rfl) (fun _ _ _ h => h) (Or.inl ⟨by rfl, ?_⟩) (by assumption) ?_
      rotate_left 1
      · (intro w' hSw; obtain ⟨s0, s1, s2⟩ := hSw; go_simp); try with_reducible rfl
      try simp only [Act.put, List.setIfInBounds_toArray, List.set_cons_zero, List.set_cons_succ, Nat.zero_add]
      refine wpAnyY_one (i := 6) rfl (by kernel_rfl) (fun K hK => ?_)
      go_simp
      have HP1 := Lib.hid (HPL.out u HB_w.out k)
      rw [HAK.out] at HP1
      refine HP1.out.mono ?_
      rintro _ u7 ⟨rfl, hb⟩
      replace HB_w : Hid (Below w.heap.size w u7) := Lib.hid (HB_w.out.trans (hb.mono HB_w.out.size))
      replace HM := Lib.hid (HM.out.below hb HM.out.lt)
      replace HR := Lib.hid (HR.out.below hb HR.out.lt)
      replace HGB := Lib.hid (HGB.out.below hb HGB.out.lt)
      replace HOL := Lib.hid (OwnI.below HOL.out hb)
      clear hb HP1
      go_simp
      have hHeld7 := HSX.out _ HM.out HOL.out
      refine hK.out _ _ (fun _ => HSX.out _ HM.out HOL.out) ?_
      clear hK K
      try simp only [Act.put, List.setIfInBounds_toArray, List.set_cons_zero, List.set_cons_succ, Nat.zero_add]
      refine wpAnyY_take (i := 7) (v := ?_) rfl (by kernel_rfl) (by kernel_rfl) (by kernel_rfl) (by kernel_rfl) (fun _ _ _ h => h) (Or.inl ⟨by rfl, ?_⟩) (by assumption) ?_
      rotate_left 1
      · (intro w' hSw; obtain ⟨s0, s1, s2⟩ := hSw; go_simp); try with_reducible rfl
      try simp only [Act.put, List.setIfInBounds_toArray, List.set_cons_zero, List.set_cons_succ, Nat.zero_add]
      refine wpAnyY_one0 (i := 8) rfl (by kernel_rfl) (by kernel_rfl) (fun K hK => ?_)
      have c0 := MetB.cell HGB.out (i := t) (by rw [flagL_len, HN.out]; exact htn)
      have f0 := HGB.out.frozen t
      have hgl := HGB.out.lt
      go_simp
      refine hK.out _ _ ?_
      clear c0 f0 hgl
      clear hK K
      try simp only [Act.put, List.setIfInBounds_toArray, List.set_cons_zero, List.set_cons_succ, Nat.zero_add]
      refine wpAnyY_done (by kernel_rfl) ?_ _
      have hb : Below (w.heap.size + 2) u7 (u7.setCell ⟨g, t, none⟩ (.bool true)) := (Below.refl _ _).setCell (p := ⟨g, t, none⟩) hwg _
      have HGB2 : Hid (Blk (u7.setCell ⟨g, t, none⟩ (.bool true)) g 4 ((flagL m ([id] ++ LB.take (i + 1))).map Value.bool).toArray) := Lib.hid (by
        obtain ⟨hj, hj1⟩ := HTK.out
        rw [HK.out, ← List.append_assoc, ← flagL_set HS.out.1 hj hj1]; exact MetB.set_ HGB.out t true)
      have HOL2 : Hid (OwnI (u7.setCell ⟨g, t, none⟩ (.bool true)) B5 (.slice (some ⟨gl, 0, none⟩) LB.length cl) LB) := Lib.hid (own_keep HOL.out (fun b e => Below.heap_setCell _ _ _ _ (by have := (HOL.out.lt b e).1; show b ≠ g; omega)))
      have HM2 := Lib.hid (HM.out.below hb (by omega))
      have HR2 := Lib.hid (HR.out.below hb (by omega))
      have HB2 := Lib.hid (HB_w.out.trans (hb.mono (by omega)))
      clear hb HB_w HM HR HGB HOL
      go_wp2_with fail
      go_roundg (LB.length - (i + 1))
      case measure => omega
      case rel => exact ⟨i + 1, by go_num, rfl, by omega, HB2.out, HM2.out, HR2.out, HGB2.out, HOL2.out⟩
    · have hlt' : ¬ (i : Int) < LB.length := by omega
      rw [List.take_of_length_le (by omega)] at HGB
      clear HOL hown HPL
      have HMc0 := HM.out.cell 0
      have HMc1 := HM.out.cell 1
      have HMlt := HM.out.lt
      simp at HMc0 HMc1
      go_wp2_with fail
      have HTW := Lib.hid (twinR_any A c m wr F (fun b hb => Nat.lt_of_lt_of_le (hF b hb) HB_w.out.size) (HH.out.keep ENode.stays (Keep.below HB_w.out hF) (fun _ h => h)) HZ'.out (by rw [HN.out]; omega))
      rw [HN.out] at HTW
      refine HTW.out.mono ?_
      rintro _ ut ⟨vt, rfl, l, hown, hlm, hb⟩
      have HBASE : Hid (w.heap.size + 2 ≤ wr.heap.size ∧ g < wr.heap.size) := Lib.hid ⟨by have := HR.out.lt; omega, HGB.out.lt⟩
      replace HB_w : Hid (Below w.heap.size w ut) := Lib.hid (HB_w.out.trans (hb.mono HB_w.out.size))
      replace HM := Lib.hid (HM.out.below hb HM.out.lt)
      replace HR := Lib.hid (HR.out.below hb HR.out.lt)
      replace HGB := Lib.hid (HGB.out.below hb HGB.out.lt)
      have hll : l.length = n := by rw [← HN.out, ← hlm, List.length_map]
      obtain ⟨At, ct, rfl⟩ := own_shape hown.row
      rw [hll] at hown ⊢
      have HO := Lib.hid hown; have HLM := Lib.hid hlm; have HBT : Hid (wr.heap.size ≤ ut.heap.size) := Lib.hid hb.size
      clear hb hown hlm HTW HMc0 HMc1 HMlt
      obtain ⟨u1, hu⟩ : ∃ u : World, ut.alloc (.cells #[.int .i64 m.next, .slice At n ct] 24) = u := ⟨_, rfl⟩
      have HBU : Below ut.heap.size ut u1 := by rw [← hu]; exact (Below.refl _ _).alloc (Nat.le_refl _) _
      have HP : Hid (Blk u1 ut.heap.size 24 #[.int .i64 m.next, .slice At n ct]) := Lib.hid (by rw [← hu]; exact Blk.new _ _ _)
      have HUE := Lib.hid hu
      clear hu
      replace HB_w : Hid (Below w.heap.size w u1) := Lib.hid (HB_w.out.trans (HBU.mono HB_w.out.size))
      replace HM := Lib.hid (HM.out.below HBU HM.out.lt)
      replace HR := Lib.hid (HR.out.below HBU HR.out.lt)
      replace HGB := Lib.hid (HGB.out.below HBU HGB.out.lt)
      clear HBU
      replace HO := Lib.hid (HO.out.below (show Below ut.heap.size ut u1 from by rw [← HUE.out]; exact (Below.refl ut.heap.size ut).alloc (Nat.le_refl _) _))
      have HPB : Hid (wr.heap.size ≤ ut.heap.size) := HBT
      go_upto_region 13 with fail
      (try rw [HUE.out])
      (try clear HUE)
      have HPc0 := HP.out.cell 0
      have HPc1 := HP.out.cell 1
      have HPlt := HP.out.lt
      simp at HPc0 HPc1
      have HUN := Lib.hid (take_any m.next (.slice At n ct) l u1 wr.heap.size (OB wr.heap.size ut.heap.size) (HO.out.ob HP.out) HO.out (by have := HP.out.lt; have := HPB.out; omega) (by rw [HLM.out]; exact HS.out) (by rw [HO.out.len_map HLM.out, HN.out]; omega) (by rw [HLM.out]; exact check_kids4 HCM.out) x (by rw [HLM.out]; exact HX.out.1) (by rw [HLM.out]; exact check_parent HCM.out HX.out.1))
      rw [HLM.out, HX.out.2] at HUN
      go_wp2_with fail
      refine HUN.out.mono ?_
      rintro _ un ⟨rfl, l1, hown, hlm, hk⟩
      have HO1 := Lib.hid hown
      have HL1 : Hid (l1.map LN.n = (mu m x).nodes) := Lib.hid (by rw [hlm]; show _ = unhangN m.nodes x.parent x.id; rw [HX.out.2])
      have hno1 : ¬ OB wr.heap.size ut.heap.size w.heap.size := fun h => by have := h.1; have := HBASE.out.1; omega
      have hno2 : ¬ OB wr.heap.size ut.heap.size (w.heap.size + 1) := fun h => by have := h.1; have := HBASE.out.1; omega
      have hno3 : ¬ OB wr.heap.size ut.heap.size ut.heap.size := fun h => h.2 rfl
      have hno4 : ¬ OB wr.heap.size ut.heap.size g := fun h => by have := h.1; have := HBASE.out.2; omega
      replace HM := Lib.hid (hk.blk HM.out hno1)
      replace HR := Lib.hid (hk.blk HR.out hno2)
      replace HP := Lib.hid (hk.blk HP.out hno3)
      replace HGB := Lib.hid (hk.blk HGB.out hno4)
      replace HB_w : Hid (Below w.heap.size w un) := Lib.hid (HB_w.out.trans (hk.toBelow HB_w.out.size (fun b h => by have := h.1; have := HBASE.out.1; omega)))
      clear hown hlm hk HUN HPc0 HPc1 HPlt hno1 hno2 hno3 hno4
      have hl1 : l1.length = n := by rw [HO1.out.len_map HL1.out, mu_len, HN.out]
      obtain ⟨bs, hbs⟩ : ∃ z, wr.heap.size = z := ⟨_, rfl⟩
      rw [hbs] at HO1 HBASE HPB
      obtain ⟨hp, hhp⟩ : ∃ z, ut.heap.size = z := ⟨_, rfl⟩
      rw [hhp] at HP HPB
      have HHP : Hid (ut.heap.size = hp) := Lib.hid hhp
      clear hbs hhp
      have HMc0 := HM.out.cell 0
      have HMc1 := HM.out.cell 1
      have HMlt := HM.out.lt
      simp at HMc0 HMc1
      have HUQ : Hid (hp < un.heap.size) := Lib.hid HP.out.lt
      have HUB : Hid (∀ b, some b ∈ ((Value.slice At n ct).ownBlock :: allBlocks l1) → b < un.heap.size) := Lib.hid (fun b hb => (HO1.out.lt b hb).2)
      go_upto_region 15 with fail
      rw [HHP.out]
      obtain ⟨u2, hu⟩ : ∃ u : World, un.alloc (.cells #[.int .i64 m.next, .slice none 0 0] 24) = u := ⟨_, rfl⟩
      have HBU : Below un.heap.size un u2 := by rw [← hu]; exact (Below.refl _ _).alloc (Nat.le_refl _) _
      have HQ : Hid (Blk u2 un.heap.size 24 #[.int .i64 m.next, .slice none 0 0]) := Lib.hid (by rw [← hu]; exact Blk.new _ _ _)
      have HUE := Lib.hid hu
      clear hu
      replace HB_w : Hid (Below w.heap.size w u2) := Lib.hid (HB_w.out.trans (HBU.mono HB_w.out.size))
      replace HM := Lib.hid (HM.out.below HBU HM.out.lt)
      replace HR := Lib.hid (HR.out.below HBU HR.out.lt)
      replace HGB := Lib.hid (HGB.out.below HBU HGB.out.lt)
      replace HP := Lib.hid (HP.out.below HBU HP.out.lt)
      clear HBU
      rw [HUE.out]
      replace HO1 := Lib.hid (HO1.out.below (show Below un.heap.size un u2 from by rw [← HUE.out]; exact (Below.refl un.heap.size un).alloc (Nat.le_refl _) _))
      obtain ⟨hq, hhq⟩ : ∃ z, un.heap.size = z := ⟨_, rfl⟩
      have HQB : Hid (hp < hq ∧ bs ≤ hp ∧ (∀ b, some b ∈ ((Value.slice At n ct).ownBlock :: allBlocks l1) → b < hq ∧ b ≠ hp) ∧ hq + 1 ≤ u2.heap.size) := Lib.hid ⟨by rw [← hhq]; have := HUQ.out; omega, HPB.out, fun b hb => ⟨by rw [← hhq]; exact HUB.out b hb, HO1.out.ne_blk HP.out b hb⟩, by have := HQ.out.lt; omega⟩
      rw [hhq] at HQ ⊢
      clear hhq HUE HMc0 HMc1 HMlt HUQ HUB
      go_wp2_with fail
      go_loopg [11] n (fun q s11 wx => ∃ (i : Nat) (vo : Value), s11 = .int .i64 i ∧ q = n - i ∧ i ≤ n ∧ Below w.heap.size w wx ∧ Blk wx (w.heap.size + 1) 24 #[.int .i64 0, .slice none 0 0] ∧ Blk wx g 4 ((flagL m ([id] ++ LB)).map Value.bool).toArray ∧ Blk wx hp 24 #[.int .i64 m.next, .slice At n ct] ∧ Blk wx hq 24 #[.int .i64 m.next, vo] ∧ OwnM wx bs (.slice At n ct) l1 ∧ wx.ownsRow (hq + 1) 38 7 vo (keepQ (fun y : LN => decide (y.n.id ∈ [id] ++ LB)) (l1.take i)).length ((keepQ (fun y : LN => decide (y.n.id ∈ [id] ++ LB)) (l1.take i)).flatMap LN.cells) ∧ hq + 1 ≤ wx.heap.size)
      case atStart => exact ⟨0, _, rfl, rfl, Nat.zero_le _, HB_w.out, HR.out, HGB.out, HP.out, HQ.out, HO1.out, by rw [List.take_zero]; exact World.ownsRow_nil _ _ _ _, HQB.out.2.2.2⟩
      case round =>
        clear HB_w HM HR HGB HP HQ HO1
        obtain ⟨i, vo, rfl, rfl, hil2, hb, hrb, hgb, hpb, hqb, hown, hrow, hqs⟩ := hrel
        have HB_w := Lib.hid hb; have HR := Lib.hid hrb; have HGB := Lib.hid hgb; have HP := Lib.hid hpb; have HQ := Lib.hid hqb; have HO1 := Lib.hid hown; have HROW := Lib.hid hrow
        have p0 := hpb.cell 0; have p1 := hpb.cell 1; have hplt := hpb.lt
        simp at p0 p1
        clear hb hrb hgb hpb hqb hown hrow
        by_cases hlt2 : i < n
        · have hil1 : i < l1.length := by omega
          have hin : i < m.nodes.length := by rw [HN.out]; exact hlt2
          obtain ⟨Y, hY⟩ : ∃ Y, l1[i] = Y := ⟨_, rfl⟩
          have HYI : Hid (Y.n.id = m.nodes[i].id) := Lib.hid (by rw [← hY]; exact ids_at HL1.out hil1 hin)
          obtain ⟨bb, hbb⟩ : ∃ bb : Bool, decide (Y.n.id ∈ [id] ++ LB) = bb := ⟨_, rfl⟩
          have HBB := Lib.hid hbb
          have hgc : wr.cell? ⟨g, i, none⟩ = some (.bool bb) := by
            have := MetB.cell HGB.out (i := i) (by rw [flagL_len]; exact hin)
            rw [this, flagL_at _ hin, ← HYI.out, hbb]
          have HYE := Lib.hid hY
          clear hbb
          have i1 : (i : Int) < n := by omega
          have i0 : (0 : Int) ≤ i := by omega
          have hgl := HGB.out.lt
          cases bb
          rotate_left 1
          · have HKN : Hid (keepQ (fun y : LN => decide (y.n.id ∈ [id] ++ LB)) (l1.take (i + 1)) = keepQ (fun y : LN => decide (y.n.id ∈ [id] ++ LB)) (l1.take i)) := Lib.hid (keep_take_no hil1 (by rw [hY]; exact HBB.out))
            clear hY
            go_wp2_with fail
            go_roundg (n - (i + 1))
            case measure => omega
            case rel => exact ⟨i + 1, vo, by go_num, rfl, by omega, HB_w.out, HR.out, HGB.out, HP.out, HQ.out, HO1.out, by rw [HKN.out]; exact HROW.out, hqs⟩
          obtain ⟨yn, yp, yk, yr⟩ := Y
          obtain ⟨gt, capt, e9, _, _, hgtB, _⟩ := own_some HO1.out.row (by omega)
          rw [hl1] at e9
          injection e9 with e1 _ e2
          subst e1; subst e2
          have HSHY : Hid (ShapeL ⟨yn, yp, yk, yr⟩) := Lib.hid (by rw [← hY]; exact (HO1.out.lists _ (List.getElem_mem hil1)).shape)
          obtain ⟨Ap, np, cp, Ak, nk, ck, Ar, nr, cr, e1, e2, e3⟩ := HSHY.out
          simp only at e1 e2 e3
          subst e1; subst e2; subst e3
          have HKN : Hid (keepQ (fun y : LN => decide (y.n.id ∈ [id] ++ LB)) (l1.take (i + 1)) = keepQ (fun y : LN => decide (y.n.id ∈ [id] ++ LB)) (l1.take i) ++ [⟨yn, .slice Ap np cp, .slice Ak nk ck, .slice Ar nr cr⟩]) := Lib.hid (by rw [keep_take_yes hil1 (by rw [hY]; exact HBB.out), hY])
          have HQ1 := HQ.out.cell 1
          simp at HQ1
          have HS19 : Hid (∀ w', Blk w' hq 24 #[.int .i64 m.next, vo] → Blk w' hp 24 #[.int .i64 m.next, .slice (some ⟨gt, 0, none⟩) n ct] → OwnM w' bs (.slice (some ⟨gt, 0, none⟩) n ct) l1 → w'.cell? ⟨hq, 1, none⟩ = some vo ∧ w'.cell? ⟨hp, 1, none⟩ = some (.slice (some ⟨gt, 0, none⟩) n ct) ∧ w'.cell? ⟨gt, i * 7, none⟩ = some (.int .i64 yn.id) ∧ w'.cell? ⟨gt, i * 7 + 1, none⟩ = some (.string yn.concept) ∧ w'.cell? ⟨gt, i * 7 + 2, none⟩ = some (.int .i64 yn.parent) ∧ w'.cell? ⟨gt, i * 7 + 3, none⟩ = some (.string yn.role) ∧ w'.cell? ⟨gt, i * 7 + 4, none⟩ = some (.slice Ap np cp) ∧ w'.cell? ⟨gt, i * 7 + 5, none⟩ = some (.slice Ak nk ck) ∧ w'.cell? ⟨gt, i * 7 + 6, none⟩ = some (.slice Ar nr cr)) := Lib.hid (fun w' h1 h2 h3 => by
            have a := h1.cell 1; have b := h2.cell 1
            simp at a b
            have kk : ∀ j (hj : j < 7), w'.cell? ⟨gt, i * 7 + j, none⟩ = (nodeCellsA yn (.slice Ap np cp) (.slice Ak nk ck) (.slice Ar nr cr))[j]? := fun j hj => by
              have h := h3.cell hil1 hj
              rw [hY] at h
              exact h
            exact ⟨a, b, kk 0 (by omega), kk 1 (by omega), kk 2 (by omega), kk 3 (by omega), kk 4 (by omega), kk 5 (by omega), kk 6 (by omega)⟩)
          obtain ⟨on, hon⟩ : ∃ z, (keepQ (fun y : LN => decide (y.n.id ∈ [id] ++ LB)) (l1.take i)).length = z := ⟨_, rfl⟩
          have HON : Hid ((keepQ (fun y : LN => decide (y.n.id ∈ [id] ++ LB)) (l1.take i)).length = on) := Lib.hid hon
          have honl : on ≤ 4096 := by
            have h1 : (keepQ (fun y : LN => decide (y.n.id ∈ [id] ++ LB)) (l1.take i)).length ≤ (l1.take i).length := List.length_filter_le _ _
            rw [hon, List.length_take] at h1
            omega
          rw [hon] at HROW
          obtain ⟨Ao, co, rfl⟩ := own_shape HROW.out
          clear hY hon
          go_upto_region 19 with fail
          clear p0 p1 hplt hgc HQ1 hgl
          obtain ⟨u, hu⟩ : ∃ u : World, wr.drew = u := ⟨_, rfl⟩
          have hb : Below wr.heap.size wr u := by rw [← hu]; exact (Below.refl _ _).drew
          replace HB_w : Hid (Below w.heap.size w u) := Lib.hid (HB_w.out.trans (hb.mono HB_w.out.size))
          replace HR := Lib.hid (HR.out.below hb HR.out.lt)
          replace HGB := Lib.hid (HGB.out.below hb HGB.out.lt)
          replace HP := Lib.hid (HP.out.below hb HP.out.lt)
          replace HQ := Lib.hid (HQ.out.below hb HQ.out.lt)
          replace HO1 := Lib.hid (HO1.out.below hb)
          replace HROW := Lib.hid (own_belowQ HROW.out hb)
          have hqu : hq + 1 ≤ u.heap.size := by have := hb.size; omega
          clear hb
          refine wp_region_Y (S := (fun w' : World => w'.cell? ⟨hq, 1, none⟩ = some (.slice Ao on co) ∧ w'.cell? ⟨hp, 1, none⟩ = some (.slice (some ⟨gt, 0, none⟩) n ct) ∧ w'.cell? ⟨gt, i * 7, none⟩ = some (.int .i64 yn.id) ∧ w'.cell? ⟨gt, i * 7 + 1, none⟩ = some (.string yn.concept) ∧ w'.cell? ⟨gt, i * 7 + 2, none⟩ = some (.int .i64 yn.parent) ∧ w'.cell? ⟨gt, i * 7 + 3, none⟩ = some (.string yn.role) ∧ w'.cell? ⟨gt, i * 7 + 4, none⟩ = some (.slice Ap np cp) ∧ w'.cell? ⟨gt, i * 7 + 5, none⟩ = some (.slice Ak nk ck) ∧ w'.cell? ⟨gt, i * 7 + 6, none⟩ = some (.slice Ar nr cr))) 10 (by kernel_rfl) (by rw [hu]; exact HS19.out _ HQ.out HP.out HO1.out) (fun hHeld => ?_)
          rw [hu] at hHeld ⊢
          clear hu
          refine wpAnyY_take (i := 0) (v := ?_) rfl (by kernel_rfl) (by kernel_rfl) (by kernel_rfl) (by kernel_rfl) (fun _ _ _ h => h) (Or.inl ⟨by rfl, ?_⟩) (by assumption) ?_
          rotate_left 1
          · (intro w' hSw; obtain ⟨s0, s1, s2, s3, s4, s5, s6, s7, s8⟩ := hSw; go_simp); try with_reducible rfl
          try simp only [Act.put, List.setIfInBounds_toArray, List.set_cons_zero, List.set_cons_succ, Nat.zero_add]
          refine wpAnyY_take (i := 1) (v := ?_) rfl (by kernel_rfl) (by kernel_rfl) (by kernel_rfl) (by kernel_rfl) (fun _ _ _ h => h) (Or.inl ⟨by rfl, ?_⟩) (by assumption) ?_
          rotate_left 1
          · (intro w' hSw; obtain ⟨s0, s1, s2, s3, s4, s5, s6, s7, s8⟩ := hSw; go_simp); try with_reducible rfl
          try simp only [Act.put, List.setIfInBounds_toArray, List.set_cons_zero, List.set_cons_succ, Nat.zero_add]
          refine wpAnyY_take (i := 2) (v := ?_) rfl (by kernel_rfl) (by kernel_rfl) (by kernel_rfl) (by kernel_rfl) (fun _ _ _ h => h) (Or.inl ⟨by rfl, ?_⟩) (by assumption) ?_
          rotate_left 1
          · (intro w' hSw; obtain ⟨s0, s1, s2, s3, s4, s5, s6, s7, s8⟩ := hSw; go_simp); try with_reducible rfl
          try simp only [Act.put, List.setIfInBounds_toArray, List.set_cons_zero, List.set_cons_succ, Nat.zero_add]
          refine wpAnyY_take (i := 3) (v := ?_) rfl (by kernel_rfl) (by kernel_rfl) (by kernel_rfl) (by kernel_rfl) (fun _ _ _ h => h) (Or.inl ⟨by rfl, ?_⟩) (by assumption) ?_
          rotate_left 1
          · (intro w' hSw; obtain ⟨s0, s1, s2, s3, s4, s5, s6, s7, s8⟩ := hSw; go_simp); try with_reducible rfl
          try simp only [Act.put, List.setIfInBounds_toArray, List.set_cons_zero, List.set_cons_succ, Nat.zero_add]
          refine wpAnyY_take (i := 4) (v := ?_) rfl (by kernel_rfl) (by kernel_rfl) (by kernel_rfl) (by kernel_rfl) (fun _ _ _ h => h) (Or.inl ⟨by rfl, ?_⟩) (by assumption) ?_
          rotate_left 1
          · (intro w' hSw; obtain ⟨s0, s1, s2, s3, s4, s5, s6, s7, s8⟩ := hSw; go_simp); try with_reducible rfl
          try simp only [Act.put, List.setIfInBounds_toArray, List.set_cons_zero, List.set_cons_succ, Nat.zero_add]
          refine wpAnyY_take (i := 5) (v := ?_) rfl (by kernel_rfl) (by kernel_rfl) (by kernel_rfl) (by kernel_rfl) (fun _ _ _ h => h) (Or.inl ⟨by rfl, ?_⟩) (by assumption) ?_
          rotate_left 1
          · (intro w' hSw; obtain ⟨s0, s1, s2, s3, s4, s5, s6, s7, s8⟩ := hSw; go_simp); try with_reducible rfl
          try simp only [Act.put, List.setIfInBounds_toArray, List.set_cons_zero, List.set_cons_succ, Nat.zero_add]
          refine wpAnyY_take (i := 6) (v := ?_) rfl (by kernel_rfl) (by kernel_rfl) (by kernel_rfl) (by kernel_rfl) (fun _ _ _ h => h) (Or.inl ⟨by rfl, ?_⟩) (by assumption) ?_
          rotate_left 1
          · (intro w' hSw; obtain ⟨s0, s1, s2, s3, s4, s5, s6, s7, s8⟩ := hSw; go_simp); try with_reducible rfl
          try simp only [Act.put, List.setIfInBounds_toArray, List.set_cons_zero, List.set_cons_succ, Nat.zero_add]
          refine wpAnyY_one (i := 7) rfl (by kernel_rfl) (fun K hK => ?_)
          go_simp
          obtain ⟨qb, hqb⟩ : ∃ q, u.heap.size = q := ⟨_, rfl⟩
          obtain ⟨u5, hu5⟩ : ∃ z : World, u.alloc (.cells #[.int .i64 yn.id, .string yn.concept, .int .i64 yn.parent, .string yn.role, .slice Ap np cp, .slice Ak nk ck, .slice Ar nr cr] 38) = z := ⟨_, rfl⟩
          have hb : Below u.heap.size u u5 := by rw [← hu5]; exact (Below.refl _ _).alloc (Nat.le_refl _) _
          have HQ5 : Hid (Blk u5 qb 38 #[.int .i64 yn.id, .string yn.concept, .int .i64 yn.parent, .string yn.role, .slice Ap np cp, .slice Ak nk ck, .slice Ar nr cr]) := Lib.hid (by rw [← hu5, ← hqb]; exact Blk.new _ _ _)
          rw [hqb, hu5]
          clear hu5 hqb
          replace HB_w : Hid (Below w.heap.size w u5) := Lib.hid (HB_w.out.trans (hb.mono HB_w.out.size))
          replace HR := Lib.hid (HR.out.below hb HR.out.lt)
          replace HGB := Lib.hid (HGB.out.below hb HGB.out.lt)
          replace HP := Lib.hid (HP.out.below hb HP.out.lt)
          replace HQ := Lib.hid (HQ.out.below hb HQ.out.lt)
          replace HO1 := Lib.hid (HO1.out.below hb)
          replace HROW := Lib.hid (own_belowQ HROW.out hb)
          have hqu5 : hq + 1 ≤ u5.heap.size := by have := hb.size; omega
          clear hb
          refine hK.out _ _ (fun _ => HS19.out _ HQ.out HP.out HO1.out) ?_
          clear hK K
          try simp only [Act.put, List.setIfInBounds_toArray, List.set_cons_zero, List.set_cons_succ, Nat.zero_add]
          refine wpAnyY_one (i := 8) rfl (by kernel_rfl) (fun K hK => ?_)
          refine step_append_from (P := Try.prog) u5 (by rfl) (.tmp 68) (.tmp 74) 22 (by rfl) (hq + 1) 38 Try.underlying22 node_info rfl (by omega) (.slice Ao on co) on _ (by rfl) HROW.out (some ⟨qb, 0, none⟩) 1 1 (LN.cells ⟨yn, .slice Ap np cp, .slice Ak nk ck, .slice Ar nr cr⟩) (by rfl) (by rfl) (by simp) (fun ad e => by cases e; exact news_cells HQ5.out) (fun u hu => by simp only [LN.cells, nodeCellsA, List.mem_cons, List.not_mem_nil, or_false] at hu; rcases hu with rfl | rfl | rfl | rfl | rfl | rfl | rfl <;> rfl) (by unfold maxLen; omega) (by omega) hqu5 ?_
          intro A6 c6 u6 own6 hg6 _
          have hrl := fun k (e : (Value.slice Ao on co).ownBlock = some k) => (HROW.out.lt k e).1
          replace HB_w : Hid (Below w.heap.size w u6) := Lib.hid (HB_w.out.grown hg6 HB_w.out.size (fun k e => by have := hrl k e; have := HQB.out.1; have := HQB.out.2.1; have := HBASE.out.1; omega))
          replace HR := Lib.hid (HR.out.grown hg6 (fun e => by have := hrl _ e.symm; have := HQB.out.1; have := HQB.out.2.1; have := HBASE.out.1; omega))
          replace HGB := Lib.hid (HGB.out.grown hg6 (fun e => by have := hrl _ e.symm; have := HQB.out.1; have := HQB.out.2.1; have := HBASE.out.2; omega))
          replace HP := Lib.hid (HP.out.grown hg6 (fun e => by have := hrl _ e.symm; have := HQB.out.1; omega))
          replace HQ := Lib.hid (HQ.out.grown hg6 (fun e => by have := hrl _ e.symm; omega))
          have HO6 : Hid (OwnM u6 bs (.slice (some ⟨gt, 0, none⟩) n ct) l1) := Lib.hid ⟨own_keep HO1.out.row (fun b e => hg6.block b (HO1.out.row.lt b e).2 (fun e2 => by have := hrl _ e2.symm; have := (HQB.out.2.2.1 b (by rw [e]; exact List.mem_cons_self ..)).1; omega)), fun y hy => (HO1.out.lists y hy).keep (fun b e => hg6.block b ((HO1.out.lists y hy).lt b e).2 (fun e2 => by have := hrl _ e2.symm; have := (HQB.out.2.2.1 b (List.mem_cons_of_mem _ (mem_all hy e))).1; omega)), HO1.out.dis⟩
          clear HO1
          have HO1 := HO6
          clear HO6
          have HRW := Lib.hid own6
          have hqu6 : hq + 1 ≤ u6.heap.size := by have := hg6.size; omega
          clear own6 hg6 hrl HROW HQ5
          have hHeld6 := HS19.out _ HQ.out HP.out HO1.out
          refine hK.out _ _ (fun _ => HS19.out _ HQ.out HP.out HO1.out) ?_
          clear hK K
          try simp only [Act.put, List.setIfInBounds_toArray, List.set_cons_zero, List.set_cons_succ, Nat.zero_add]
          refine wpAnyY_take (i := 9) (v := ?_) rfl (by kernel_rfl) (by kernel_rfl) (by kernel_rfl) (by kernel_rfl) (fun _ _ _ h => h) (Or.inl ⟨by rfl, ?_⟩) (by assumption) ?_
          rotate_left 1
          · (intro w' hSw; obtain ⟨s0, s1, s2, s3, s4, s5, s6, s7, s8⟩ := hSw; go_simp); try with_reducible rfl
          try simp only [Act.put, List.setIfInBounds_toArray, List.set_cons_zero, List.set_cons_succ, Nat.zero_add]
          refine wpAnyY_one0 (i := 10) rfl (by kernel_rfl) (by kernel_rfl) (fun K hK => ?_)
          have z0 := HQ.out.cell 1; have z1 := HQ.out.frozen 1
          have hqlt := HQ.out.lt
          simp at z0
          go_simp
          refine hK.out _ _ ?_
          clear z0 z1 hqlt
          clear hK K
          try simp only [Act.put, List.setIfInBounds_toArray, List.set_cons_zero, List.set_cons_succ, Nat.zero_add]
          refine wpAnyY_done (by kernel_rfl) ?_ _
          have hb : Below (hp + 1) u6 (u6.setCell ⟨hq, 1, none⟩ (.slice A6 (on + 1) c6)) := (Below.refl _ _).setCell (p := ⟨hq, 1, none⟩) (by have := HQB.out.1; show hp + 1 ≤ hq; omega) _
          have HQ2 := Lib.hid (HQ.out.set_ 1 (.slice A6 (on + 1) c6))
          have HO2 : Hid (OwnM (u6.setCell ⟨hq, 1, none⟩ (.slice A6 (on + 1) c6)) bs (.slice (some ⟨gt, 0, none⟩) n ct) l1) := Lib.hid ⟨own_keep HO1.out.row (fun b e => Below.heap_setCell _ _ _ _ (by have := (HQB.out.2.2.1 b (by rw [e]; exact List.mem_cons_self ..)).1; show b ≠ hq; omega)), fun y hy => (HO1.out.lists y hy).keep (fun b e => Below.heap_setCell _ _ _ _ (by have := (HQB.out.2.2.1 b (List.mem_cons_of_mem _ (mem_all hy e))).1; show b ≠ hq; omega)), HO1.out.dis⟩
          have HRW2 : Hid ((u6.setCell ⟨hq, 1, none⟩ (.slice A6 (on + 1) c6)).ownsRow (hq + 1) 38 7 (.slice A6 (on + 1) c6) (keepQ (fun y : LN => decide (y.n.id ∈ [id] ++ LB)) (l1.take (i + 1))).length ((keepQ (fun y : LN => decide (y.n.id ∈ [id] ++ LB)) (l1.take (i + 1))).flatMap LN.cells)) := Lib.hid (by
            rw [HKN.out, List.flatMap_append, List.length_append, HON.out]
            simpa using own_keep HRW.out (fun b e => Below.heap_setCell _ _ _ _ (by have := (HRW.out.lt b e).1; show b ≠ hq; omega)))
          have HB2 := Lib.hid (HB_w.out.trans (hb.mono (by have := HBASE.out.1; have := HQB.out.2.1; omega)))
          have HR2 := Lib.hid (HR.out.below hb (by have := HBASE.out.1; have := HQB.out.2.1; omega))
          have HGB2 := Lib.hid (HGB.out.below hb (by have := HBASE.out.2; have := HQB.out.2.1; omega))
          have HP2 := Lib.hid (HP.out.below hb (by omega))
          have hqu9 : hq + 1 ≤ (u6.setCell ⟨hq, 1, none⟩ (.slice A6 (on + 1) c6)).heap.size := by simpa using hqu6
          clear hb HB_w HR HGB HP HQ HO1 HRW
          go_wp2_with fail
          go_roundg (n - (i + 1))
          case measure => omega
          case rel => exact ⟨i + 1, _, by go_num, rfl, by omega, HB2.out, HR2.out, HGB2.out, HP2.out, HQ2.out, HO2.out, HRW2.out, hqu9⟩
        · have hlt' : ¬ (i : Int) < n := by omega
          rw [List.take_of_length_le (by omega)] at HROW
          have HFIN : Hid ((keepQ (fun y : LN => decide (y.n.id ∈ [id] ++ LB)) l1).map LN.n = LL) := Lib.hid (by
            rw [map_keepQ (fun k => decide (k ∈ [id] ++ LB)), HL1.out, ← HLL.out]
            unfold removeL
            rw [HXO.out, HLBE.out]
            congr 1
            funext y
            rw [show decide (y.id ∈ [id] ++ LB) = decide (y.id ∈ LB ++ [id]) from decide_eq_decide.2 (by simp [or_comm])])
          obtain ⟨A9, c9, rfl⟩ := own_shape HROW.out
          obtain ⟨kn, hkn⟩ : ∃ z, (keepQ (fun y : LN => decide (y.n.id ∈ [id] ++ LB)) l1).length = z := ⟨_, rfl⟩
          have HKN := Lib.hid hkn
          rw [hkn] at HQ
          clear hkn
          have q0 := HQ.out.cell 0; have q1 := HQ.out.cell 1
          have hqlt := HQ.out.lt
          simp at q0 q1
          have t0 := HR.out.frozen 0; have t1 := HR.out.frozen 1
          have r0 := HR.out.cell 0; have r1 := HR.out.cell 1
          have hrlt := HR.out.lt
          simp at r0 r1
          go_wp2_with fail
          have hyS := (HR.out.set_ 0 (.int .i64 m.next)).set_ 1 (.slice A9 kn c9)
          have f0 := hyS.cell 0; have f1 := hyS.cell 1
          simp at f0 f1
          have HBW := Lib.hid ((HB_w.out.setCell (p := ⟨w.heap.size + 1, 0, none⟩) (by show w.heap.size ≤ w.heap.size + 1; omega) (.int .i64 m.next)).setCell (p := ⟨w.heap.size + 1, 1, none⟩) (by show w.heap.size ≤ w.heap.size + 1; omega) (.slice A9 kn c9))
          refine bodyPost_ret (v := .tuple #[.agg #[.int .i64 m.next, .slice A9 kn c9], .int .i64 0]) (by simp [results, Try.results52, go_sem, f0, f1]) rfl ⟨⟨_, rfl, Or.inr ⟨E.out, _, rfl, ?_⟩⟩, HBW.out⟩
          rw [← HFIN.out]
          have hbs2 := HBASE.out.1
          have hq2 := HQB.out.1; have hq3 := HQB.out.2.1
          have hks : ∀ b, b ≠ w.heap.size + 1 → ((wr.setCell ⟨w.heap.size + 1, 0, none⟩ (.int .i64 m.next)).setCell ⟨w.heap.size + 1, 1, none⟩ (.slice A9 kn c9)).heap[b]? = wr.heap[b]? := fun b hb => (Below.heap_setCell _ _ _ _ hb).trans (Below.heap_setCell _ _ _ _ hb)
          refine rowLN (base := hq + 1) (base' := bs) (own_keep (w := wr) ?_ (fun b e => hks b ?_)) (fun y hy => ((HO1.out.lists y (List.filter_sublist.subset hy)).keep (fun b e => hks b ?_))) (fun b h1 h2 => ⟨by omega, h2⟩) (fun b h1 h2 => ⟨by omega, h2⟩)
          · have h := HROW.out
            rw [HKN.out] at h ⊢
            exact h
          · have h := HROW.out
            rw [HKN.out] at h
            have := (h.lt b e).1
            omega
          · have := ((HO1.out.lists y (List.filter_sublist.subset hy)).lt b e).1
            omega
end Go.Proofs.Ytmafhaadcjgcbaa
end
