import Derived.Test.YtmafhaadcjgcbaaCopyQ
import Derived.Test.YtmafhaadcjgcbaaMoveR
import Derived.Test.YtmafhaadcjgcbaaRNode
import Derived.Test.YtmafhaadcjgcbaaRegZ
set_option linter.unusedSimpArgs false
set_option linter.unusedVariables false
/- the document's Copy -/
namespace Go.Proofs.Ytmafhaadcjgcbaa
open Go Go.RowKit

set_option maxRecDepth 100000 in
set_option maxHeartbeats 8000000 in
theorem copyR_any (A : Option Addr) (c : Nat) (m : AModel) (w : World) (F : Nat → Prop) (hF : ∀ b, F b → b < w.heap.size) (h : RowOf 7 ENode w F A m.nodes) (hz : ∀ x ∈ m.nodes, NodeOK x) (hz' : ∀ x ∈ m.nodes, LensOK x) (hl : m.nodes.length ≤ 9223372036854775807) (id : Int) (hid : InR id) (p : Int) (hpi : InR p) (role : ByteArray) (hns : role.size ≤ 9223372036854775807) (a : Int) (ha : InR a) :
  Calls Try.prog 50 #[.agg #[.int .i64 m.next, .slice A m.nodes.length c], .int .i64 id, .int .i64 p, .string role, .int .i64 a] w fun e w' => (∃ v, e = .returned v ∧ ResCopy w' w.heap.size m.next (ksL m id).length (copyE m id p role a) (copyL m id p role a) v) ∧ Below w.heap.size w w' := by
 obtain ⟨EE, hEE⟩ : ∃ EE, copyE m id p role a = EE := ⟨_, rfl⟩
 obtain ⟨LL, hLL⟩ : ∃ LL, copyL m id p role a = LL := ⟨_, rfl⟩
 rw [hEE, hLL]
 have HEE := Lib.hid hEE; have HLL := Lib.hid hLL
 clear hEE hLL
 have HH := Lib.hid h; have HZ := Lib.hid hz; have HZ' := Lib.hid hz'; have HLB := Lib.hid hl
 obtain ⟨n, hn⟩ : ∃ n, m.nodes.length = n := ⟨_, rfl⟩
 have HN := Lib.hid hn
 rw [hn] at hl ⊢
 clear h hz hz' hn
 obtain ⟨u0, hu0⟩ : ∃ u : World, (w.alloc (.cells #[.int .i64 m.next, .slice A n c] 24)).alloc (.cells #[.int .i64 0, .slice none 0 0] 24) = u := ⟨_, rfl⟩
 have HM : Hid (Blk u0 w.heap.size 24 #[.int .i64 m.next, .slice A n c]) := Lib.hid (by rw [← hu0]; exact (Blk.new w _ _).alloc _)
 have HR : Hid (Blk u0 (w.heap.size + 1) 24 #[.int .i64 0, .slice none 0 0]) := Lib.hid (by rw [← hu0]; exact Blk.new' (by simp))
 have hb : Below w.heap.size w u0 := by rw [← hu0]; exact ((Below.refl w.heap.size w).alloc (Nat.le_refl _) _).alloc (by simp) _
 have HU0 := Lib.hid hu0
 clear hu0
 have HB_w : Hid (Below w.heap.size w u0) := Lib.hid hb
 clear hb
 have HC := Lib.hid (right_any A c m u0 F (fun b hb => Nat.lt_of_lt_of_le (hF b hb) HB_w.out.size) (HH.out.keep ENode.stays (Keep.below HB_w.out hF) (fun _ h => h)) (fun x hx => (HZ.out x hx).1) HLB.out)
 rw [HN.out] at HC
 have HCC : Hid (Calls Try.prog 55 #[.agg #[.int .i64 m.next, .slice A n c]] u0 fun e w' => e = .returned (.bool (rightM m)) ∧ Below u0.heap.size u0 w') := HC
 clear HC
 by_cases hc : CheckM m
 rotate_left 1
 ·have HC2 := Lib.hid (res_is (rightM_is.2 hc) HCC.out)
  have E := Lib.hid (show EE = 29 from HEE.out.symm.trans (copyE_check hc))
  clear hc HCC
  go_enter Try.func50, Try.ntmps50
  go_wp2_with fail
  (try rw [HU0.out])
  refine HC2.out.mono ?_
  rintro _ u1 ⟨rfl, hb⟩
  replace HB_w : Hid (Below w.heap.size w u1) := Lib.hid (HB_w.out.trans (hb.mono HB_w.out.size))
  replace HM := Lib.hid (HM.out.below hb HM.out.lt)
  replace HR := Lib.hid (HR.out.below hb HR.out.lt)
  clear hb HU0 HC2
  have t0 := HR.out.frozen 0; have t1 := HR.out.frozen 1
  have r0 := HR.out.cell 0; have r1 := HR.out.cell 1
  have hrlt := HR.out.lt
  simp at r0 r1
  go_wp2_with fail
  have hyS := (HR.out.set_ 0 (.int .i64 0)).set_ 1 (.slice none 0 0)
  have f0 := hyS.cell 0; have f1 := hyS.cell 1
  simp at f0 f1
  have HBW := Lib.hid ((HB_w.out.setCell (p := ⟨w.heap.size + 1, 0, none⟩) (by show w.heap.size ≤ w.heap.size + 1; omega) (.int .i64 0)).setCell (p := ⟨w.heap.size + 1, 1, none⟩) (by show w.heap.size ≤ w.heap.size + 1; omega) (.slice none 0 0))
  exact bodyPost_ret (v := .tuple #[.agg #[.int .i64 0, .slice none 0 0], .int .i64 0, .int .i64 (29)]) (by simp [results, Try.results50, go_sem, f0, f1]) rfl ⟨⟨_, rfl, Or.inl ⟨by rw [E.out]; decide, by rw [E.out]⟩⟩, HBW.out⟩
 have HC2 := Lib.hid (res_is (rightM_is.1 hc) HCC.out)
 have HK4 := Lib.hid hc.kids4
 have HCM := Lib.hid hc
 have HS := Lib.hid hc.1.srtB
 have hl4 : n ≤ 4096 := by rw [← HN.out]; exact hc.1.1.2.2
 have hnx : 1 ≤ m.next ∧ m.next ≤ 1048577 := ⟨hc.1.1.1, hc.1.1.2.1⟩
 have HRK : Hid (∀ x ∈ m.nodes, ∀ k ∈ x.kids, InR k) := Lib.hid (fun x hx => (HZ.out x hx).2.2)
 have HRPP : Hid (∀ x ∈ m.nodes, InR x.parent) := Lib.hid (fun x hx => (HZ.out x hx).2.1)
 clear hc HCC HLB
 rcases atI_cases m.nodes id with ⟨j, hj, hj1, hj2⟩ | ⟨hj1, hj2⟩
 rotate_left 1
 ·have HAT := Lib.hid hj2
  have HLT : Hid (atI m.nodes id < 0) := Lib.hid (by rw [hj2]; omega)
  clear hj1 hj2
  by_cases hp0 : p = 0
  ·subst hp0
   have g1 : ((0 : Int) != 0) = false := by decide
   go_enter Try.func50, Try.ntmps50
   go_wp2_with fail
   (try rw [HU0.out])
   refine HC2.out.mono ?_
   rintro _ u1 ⟨rfl, hb⟩
   replace HB_w : Hid (Below w.heap.size w u1) := Lib.hid (HB_w.out.trans (hb.mono HB_w.out.size))
   replace HM := Lib.hid (HM.out.below hb HM.out.lt)
   replace HR := Lib.hid (HR.out.below hb HR.out.lt)
   clear hb HU0 HC2
   have HMc0 := HM.out.cell 0
   have HMc1 := HM.out.cell 1
   have HMlt := HM.out.lt
   simp at HMc0 HMc1
   have HPL := Lib.hid (at_any A c m.next id m.nodes u1 F (fun b hb => Nat.lt_of_lt_of_le (hF b hb) HB_w.out.size) (HH.out.keep ENode.stays (Keep.below HB_w.out hF) (fun _ h => h)) HS.out.1 (by rw [HN.out]; omega))
   rw [HAT.out, HN.out] at HPL
   go_wp2_with fail
   refine (HPL.out).mono ?_
   rintro _ u2 ⟨rfl, hb⟩
   replace HB_w : Hid (Below w.heap.size w u2) := Lib.hid (HB_w.out.trans (hb.mono HB_w.out.size))
   replace HM := Lib.hid (HM.out.below hb HM.out.lt)
   replace HR := Lib.hid (HR.out.below hb HR.out.lt)
   clear hb
   clear HPL HMc0 HMc1 HMlt
   have g4 : decide ((-1 : Int) < 0) = true := by decide
   have E := Lib.hid (show EE = 20 from HEE.out.symm.trans (copyE_node HCM.out (fun h => absurd rfl h) (.inl HLT.out)))
   have t0 := HR.out.frozen 0; have t1 := HR.out.frozen 1
   have r0 := HR.out.cell 0; have r1 := HR.out.cell 1
   have hrlt := HR.out.lt
   simp at r0 r1
   go_wp2_with fail
   have hyS := (HR.out.set_ 0 (.int .i64 0)).set_ 1 (.slice none 0 0)
   have f0 := hyS.cell 0; have f1 := hyS.cell 1
   simp at f0 f1
   have HBW := Lib.hid ((HB_w.out.setCell (p := ⟨w.heap.size + 1, 0, none⟩) (by show w.heap.size ≤ w.heap.size + 1; omega) (.int .i64 0)).setCell (p := ⟨w.heap.size + 1, 1, none⟩) (by show w.heap.size ≤ w.heap.size + 1; omega) (.slice none 0 0))
   exact bodyPost_ret (v := .tuple #[.agg #[.int .i64 0, .slice none 0 0], .int .i64 0, .int .i64 (20)]) (by simp [results, Try.results50, go_sem, f0, f1]) rfl ⟨⟨_, rfl, Or.inl ⟨by rw [E.out]; decide, by rw [E.out]⟩⟩, HBW.out⟩
  ·have g1 : (p != 0) = true := by simp; exact hp0
   rcases hwc : wordA role with _ | _
   ·have E := Lib.hid (show EE = 2 from HEE.out.symm.trans (copyE_word HCM.out hp0 hwc))
    have HW := Lib.hid hwc
    clear hwc
    go_enter Try.func50, Try.ntmps50
    go_wp2_with fail
    (try rw [HU0.out])
    refine HC2.out.mono ?_
    rintro _ u1 ⟨rfl, hb⟩
    replace HB_w : Hid (Below w.heap.size w u1) := Lib.hid (HB_w.out.trans (hb.mono HB_w.out.size))
    replace HM := Lib.hid (HM.out.below hb HM.out.lt)
    replace HR := Lib.hid (HR.out.below hb HR.out.lt)
    clear hb HU0 HC2
    go_wp2_with fail
    refine (rword_is hns HW.out u1).mono ?_
    rintro _ u2 ⟨rfl, hb⟩
    replace HB_w : Hid (Below w.heap.size w u2) := Lib.hid (HB_w.out.trans (hb.mono HB_w.out.size))
    replace HM := Lib.hid (HM.out.below hb HM.out.lt)
    replace HR := Lib.hid (HR.out.below hb HR.out.lt)
    clear hb
    have t0 := HR.out.frozen 0; have t1 := HR.out.frozen 1
    have r0 := HR.out.cell 0; have r1 := HR.out.cell 1
    have hrlt := HR.out.lt
    simp at r0 r1
    go_wp2_with fail
    have hyS := (HR.out.set_ 0 (.int .i64 0)).set_ 1 (.slice none 0 0)
    have f0 := hyS.cell 0; have f1 := hyS.cell 1
    simp at f0 f1
    have HBW := Lib.hid ((HB_w.out.setCell (p := ⟨w.heap.size + 1, 0, none⟩) (by show w.heap.size ≤ w.heap.size + 1; omega) (.int .i64 0)).setCell (p := ⟨w.heap.size + 1, 1, none⟩) (by show w.heap.size ≤ w.heap.size + 1; omega) (.slice none 0 0))
    exact bodyPost_ret (v := .tuple #[.agg #[.int .i64 0, .slice none 0 0], .int .i64 0, .int .i64 (2)]) (by simp [results, Try.results50, go_sem, f0, f1]) rfl ⟨⟨_, rfl, Or.inl ⟨by rw [E.out]; decide, by rw [E.out]⟩⟩, HBW.out⟩
   ·have HW := Lib.hid hwc
    clear hwc
    go_enter Try.func50, Try.ntmps50
    go_wp2_with fail
    (try rw [HU0.out])
    refine HC2.out.mono ?_
    rintro _ u1 ⟨rfl, hb⟩
    replace HB_w : Hid (Below w.heap.size w u1) := Lib.hid (HB_w.out.trans (hb.mono HB_w.out.size))
    replace HM := Lib.hid (HM.out.below hb HM.out.lt)
    replace HR := Lib.hid (HR.out.below hb HR.out.lt)
    clear hb HU0 HC2
    go_wp2_with fail
    refine (rword_is hns HW.out u1).mono ?_
    rintro _ u2 ⟨rfl, hb⟩
    replace HB_w : Hid (Below w.heap.size w u2) := Lib.hid (HB_w.out.trans (hb.mono HB_w.out.size))
    replace HM := Lib.hid (HM.out.below hb HM.out.lt)
    replace HR := Lib.hid (HR.out.below hb HR.out.lt)
    clear hb
    have HMc0 := HM.out.cell 0
    have HMc1 := HM.out.cell 1
    have HMlt := HM.out.lt
    simp at HMc0 HMc1
    have HPL := Lib.hid (at_any A c m.next id m.nodes u2 F (fun b hb => Nat.lt_of_lt_of_le (hF b hb) HB_w.out.size) (HH.out.keep ENode.stays (Keep.below HB_w.out hF) (fun _ h => h)) HS.out.1 (by rw [HN.out]; omega))
    rw [HAT.out, HN.out] at HPL
    go_wp2_with fail
    refine (HPL.out).mono ?_
    rintro _ u3 ⟨rfl, hb⟩
    replace HB_w : Hid (Below w.heap.size w u3) := Lib.hid (HB_w.out.trans (hb.mono HB_w.out.size))
    replace HM := Lib.hid (HM.out.below hb HM.out.lt)
    replace HR := Lib.hid (HR.out.below hb HR.out.lt)
    clear hb
    clear HPL HMc0 HMc1 HMlt
    have g4 : decide ((-1 : Int) < 0) = true := by decide
    have E := Lib.hid (show EE = 20 from HEE.out.symm.trans (copyE_node HCM.out (fun _ => HW.out) (.inl HLT.out)))
    have t0 := HR.out.frozen 0; have t1 := HR.out.frozen 1
    have r0 := HR.out.cell 0; have r1 := HR.out.cell 1
    have hrlt := HR.out.lt
    simp at r0 r1
    go_wp2_with fail
    have hyS := (HR.out.set_ 0 (.int .i64 0)).set_ 1 (.slice none 0 0)
    have f0 := hyS.cell 0; have f1 := hyS.cell 1
    simp at f0 f1
    have HBW := Lib.hid ((HB_w.out.setCell (p := ⟨w.heap.size + 1, 0, none⟩) (by show w.heap.size ≤ w.heap.size + 1; omega) (.int .i64 0)).setCell (p := ⟨w.heap.size + 1, 1, none⟩) (by show w.heap.size ≤ w.heap.size + 1; omega) (.slice none 0 0))
    exact bodyPost_ret (v := .tuple #[.agg #[.int .i64 0, .slice none 0 0], .int .i64 0, .int .i64 (20)]) (by simp [results, Try.results50, go_sem, f0, f1]) rfl ⟨⟨_, rfl, Or.inl ⟨by rw [E.out]; decide, by rw [E.out]⟩⟩, HBW.out⟩
 have HAT := Lib.hid hj2
 have HLT : Hid (¬ atI m.nodes id < 0) := Lib.hid (by rw [hj2]; omega)
 have g4 : decide ((j : Int) < 0) = false := decide_eq_false (by omega)
 obtain ⟨x, hx⟩ : ∃ x, m.nodes[j] = x := ⟨_, rfl⟩
 have HX : Hid (x ∈ m.nodes ∧ x.id = id) := Lib.hid ⟨by rw [← hx]; exact List.getElem_mem hj, by rw [← hx]; exact hj1⟩
 clear hj1 hj2 hx
 obtain ⟨EG, hEG⟩ : ∃ z, goalE m p role a (dN m p) (heightN m id : Nat) = z := ⟨_, rfl⟩
 have HEG := Lib.hid hEG
 clear hEG
 by_cases hp0 : p = 0
 ·subst hp0
  have HWD : Hid ((0 : Int) ≠ 0 → wordA role = true) := Lib.hid (fun h => absurd rfl h)
  have HNN : Hid (¬ (atI m.nodes id < 0 ∨ ((0 : Int) ≠ 0 ∧ atI m.nodes 0 < 0))) := Lib.hid (by rintro (h | h); exact HLT.out h; exact h.1 rfl)
  have g1 : ((0 : Int) != 0) = false := by decide
  go_enter Try.func50, Try.ntmps50
  go_wp2_with fail
  (try rw [HU0.out])
  refine HC2.out.mono ?_
  rintro _ u1 ⟨rfl, hb⟩
  replace HB_w : Hid (Below w.heap.size w u1) := Lib.hid (HB_w.out.trans (hb.mono HB_w.out.size))
  replace HM := Lib.hid (HM.out.below hb HM.out.lt)
  replace HR := Lib.hid (HR.out.below hb HR.out.lt)
  clear hb HU0 HC2
  have HMc0 := HM.out.cell 0
  have HMc1 := HM.out.cell 1
  have HMlt := HM.out.lt
  simp at HMc0 HMc1
  have HPL := Lib.hid (at_any A c m.next id m.nodes u1 F (fun b hb => Nat.lt_of_lt_of_le (hF b hb) HB_w.out.size) (HH.out.keep ENode.stays (Keep.below HB_w.out hF) (fun _ h => h)) HS.out.1 (by rw [HN.out]; omega))
  rw [HAT.out, HN.out] at HPL
  go_wp2_with fail
  refine (HPL.out).mono ?_
  rintro _ u2 ⟨rfl, hb⟩
  replace HB_w : Hid (Below w.heap.size w u2) := Lib.hid (HB_w.out.trans (hb.mono HB_w.out.size))
  replace HM := Lib.hid (HM.out.below hb HM.out.lt)
  replace HR := Lib.hid (HR.out.below hb HR.out.lt)
  clear hb
  clear HPL HMc0 HMc1 HMlt
  have HHT := Lib.hid (fun (w' : World) (hb : Below w.heap.size w w') => high_any A c m w' F (fun b hb2 => Nat.lt_of_lt_of_le (hF b hb2) hb.size) (HH.out.keep ENode.stays (Keep.below hb hF) (fun _ h => h)) HCM.out HRPP.out HRK.out HK4.out x HX.out.1)
  rw [HN.out, HX.out.2] at HHT
  have hg64 : 1 ≤ heightN m id ∧ heightN m id ≤ 64 := by have := height_le HCM.out HX.out.1; rw [HX.out.2] at this; exact this
  obtain ⟨hg, hhg⟩ : ∃ z, heightN m id = z := ⟨_, rfl⟩
  rw [hhg] at HHT hg64 HEG
  have HHG := Lib.hid hhg
  clear hhg
  have HGE : Hid (goalE m 0 role a (dN m 0) (heightN m id : Nat) = EG) := Lib.hid (by rw [HHG.out]; exact HEG.out)
  have HGO := Lib.hid (fun (w' : World) (_ : Below w.heap.size w w') => mayRoot_any m.next A n c w' role a hg)
  rw [(goalE_root _ _ _ _ _).symm.trans HEG.out] at HGO
  clear HEG
  have HSM : Hid (∀ w', Blk w' w.heap.size 24 #[.int .i64 m.next, .slice A n c] → w'.cell? ⟨w.heap.size, 0, none⟩ = some (.int .i64 m.next) ∧ w'.cell? ⟨w.heap.size, 1, none⟩ = some (.slice A n c)) := Lib.hid (fun w' h => by
   have a := h.cell 0; have b := h.cell 1
   simp at a b
   exact ⟨a, b⟩)
  go_upto_region 7 with fail
  obtain ⟨u, hu⟩ : ∃ u : World, u2.drew = u := ⟨_, rfl⟩
  have hb : Below u2.heap.size u2 u := by rw [← hu]; exact (Below.refl _ _).drew
  replace HB_w : Hid (Below w.heap.size w u) := Lib.hid (HB_w.out.trans (hb.mono HB_w.out.size))
  replace HM := Lib.hid (HM.out.below hb HM.out.lt)
  replace HR := Lib.hid (HR.out.below hb HR.out.lt)
  clear hb
  refine wp_region_Y (S := (fun w' : World => w'.cell? ⟨w.heap.size, 0, none⟩ = some (.int .i64 m.next) ∧ w'.cell? ⟨w.heap.size, 1, none⟩ = some (.slice A n c))) 8 (by kernel_rfl) (by rw [hu]; exact HSM.out _ HM.out) (fun hHeld => ?_)
  rw [hu] at hHeld ⊢
  clear hu
  refine wpAnyY_take (i := 0) (v := ?_) rfl (by kernel_rfl) (by kernel_rfl) (by kernel_rfl) (by kernel_rfl) (fun _ _ _ h => h) (Or.inl ⟨by rfl, ?_⟩) (by assumption) ?_
  rotate_left 1
  ·(intro w' hSw; obtain ⟨s0, s1⟩ := hSw; go_simp); try with_reducible rfl
  try simp only [Act.put, List.setIfInBounds_toArray, List.set_cons_zero, List.set_cons_succ, Nat.zero_add]
  refine wpAnyY_take (i := 1) (v := ?_) rfl (by kernel_rfl) (by kernel_rfl) (by kernel_rfl) (by kernel_rfl) (fun _ _ _ h => h) (Or.inl ⟨by rfl, ?_⟩) (by assumption) ?_
  rotate_left 1
  ·(intro w' hSw; obtain ⟨s0, s1⟩ := hSw; go_simp); try with_reducible rfl
  try simp only [Act.put, List.setIfInBounds_toArray, List.set_cons_zero, List.set_cons_succ, Nat.zero_add]
  refine wpAnyY_take (i := 2) (v := ?_) rfl (by kernel_rfl) (by kernel_rfl) (by kernel_rfl) (by kernel_rfl) (fun _ _ _ h => h) (Or.inl ⟨by rfl, ?_⟩) (by assumption) ?_
  rotate_left 1
  ·(intro w' hSw; obtain ⟨s0, s1⟩ := hSw; go_simp); try with_reducible rfl
  try simp only [Act.put, List.setIfInBounds_toArray, List.set_cons_zero, List.set_cons_succ, Nat.zero_add]
  refine wpAnyY_take (i := 3) (v := ?_) rfl (by kernel_rfl) (by kernel_rfl) (by kernel_rfl) (by kernel_rfl) (fun _ _ _ h => h) (Or.inl ⟨by rfl, ?_⟩) (by assumption) ?_
  rotate_left 1
  ·(intro w' hSw; obtain ⟨s0, s1⟩ := hSw; go_simp); try with_reducible rfl
  try simp only [Act.put, List.setIfInBounds_toArray, List.set_cons_zero, List.set_cons_succ, Nat.zero_add]
  refine wpAnyY_take (i := 4) (v := ?_) rfl (by kernel_rfl) (by kernel_rfl) (by kernel_rfl) (by kernel_rfl) (fun _ _ _ h => h) (Or.inl ⟨by rfl, ?_⟩) (by assumption) ?_
  rotate_left 1
  ·(intro w' hSw; obtain ⟨s0, s1⟩ := hSw; go_simp); try with_reducible rfl
  try simp only [Act.put, List.setIfInBounds_toArray, List.set_cons_zero, List.set_cons_succ, Nat.zero_add]
  refine wpAnyY_take (i := 5) (v := ?_) rfl (by kernel_rfl) (by kernel_rfl) (by kernel_rfl) (by kernel_rfl) (fun _ _ _ h => h) (Or.inl ⟨by rfl, ?_⟩) (by assumption) ?_
  rotate_left 1
  ·(intro w' hSw; obtain ⟨s0, s1⟩ := hSw; go_simp); try with_reducible rfl
  try simp only [Act.put, List.setIfInBounds_toArray, List.set_cons_zero, List.set_cons_succ, Nat.zero_add]
  refine wpAnyY_one (i := 6) rfl (by kernel_rfl) (fun K hK => ?_)
  go_simp
  refine (HHT.out _ HB_w.out).mono ?_
  rintro _ v1 ⟨rfl, hb⟩
  replace HB_w : Hid (Below w.heap.size w v1) := Lib.hid (HB_w.out.trans (hb.mono HB_w.out.size))
  replace HM := Lib.hid (HM.out.below hb HM.out.lt)
  replace HR := Lib.hid (HR.out.below hb HR.out.lt)
  clear hb
  go_simp
  have hHeldv1 := HSM.out _ HM.out
  refine hK.out _ _ (fun _ => HSM.out _ HM.out) ?_
  clear hK K
  try simp only [Act.put, List.setIfInBounds_toArray, List.set_cons_zero, List.set_cons_succ, Nat.zero_add]
  refine wpAnyY_one (i := 7) rfl (by kernel_rfl) (fun K hK => ?_)
  go_simp
  refine (HGO.out _ HB_w.out).mono ?_
  rintro _ v2 ⟨rfl, hb⟩
  replace HB_w : Hid (Below w.heap.size w v2) := Lib.hid (HB_w.out.trans (hb.mono HB_w.out.size))
  replace HM := Lib.hid (HM.out.below hb HM.out.lt)
  replace HR := Lib.hid (HR.out.below hb HR.out.lt)
  clear hb
  go_simp
  have hHeldv2 := HSM.out _ HM.out
  refine hK.out _ _ (fun _ => HSM.out _ HM.out) ?_
  clear hK K
  try simp only [Act.put, List.setIfInBounds_toArray, List.set_cons_zero, List.set_cons_succ, Nat.zero_add]
  refine wpAnyY_one0 (i := 8) rfl (by kernel_rfl) (by kernel_rfl) (fun K hK => ?_)
  go_simp
  refine hK.out _ _ ?_
  clear hK K
  try simp only [Act.put, List.setIfInBounds_toArray, List.set_cons_zero, List.set_cons_succ, Nat.zero_add]
  refine wpAnyY_done (by kernel_rfl) ?_ _
  clear hHeld hHeldv1 hHeldv2
  by_cases hEG0 : EG = 0
  rotate_left 1
  ·have E : Hid (EE = EG) := Lib.hid (by rw [← HEE.out, copyE_goal HCM.out HWD.out HNN.out (by rw [HGE.out]; exact hEG0), HGE.out])
   have hEne : EG ≠ 0 := hEG0
   have hEG1 : (EG != 0) = true := by simp; exact hEG0
   clear hEG0 HGE HHT HGO
   have t0 := HR.out.frozen 0; have t1 := HR.out.frozen 1
   have r0 := HR.out.cell 0; have r1 := HR.out.cell 1
   have hrlt := HR.out.lt
   simp at r0 r1
   go_wp2_with fail
   have hyS := (HR.out.set_ 0 (.int .i64 0)).set_ 1 (.slice none 0 0)
   have f0 := hyS.cell 0; have f1 := hyS.cell 1
   simp at f0 f1
   have HBW := Lib.hid ((HB_w.out.setCell (p := ⟨w.heap.size + 1, 0, none⟩) (by show w.heap.size ≤ w.heap.size + 1; omega) (.int .i64 0)).setCell (p := ⟨w.heap.size + 1, 1, none⟩) (by show w.heap.size ≤ w.heap.size + 1; omega) (.slice none 0 0))
   exact bodyPost_ret (v := .tuple #[.agg #[.int .i64 0, .slice none 0 0], .int .i64 0, .int .i64 (EG)]) (by simp [results, Try.results50, go_sem, f0, f1]) rfl ⟨⟨_, rfl, Or.inl ⟨by rw [E.out]; exact hEne, by rw [E.out]⟩⟩, HBW.out⟩
  subst hEG0
  clear HHT HGO
  have q0 : ((0 : Int) != 0) = false := by decide
  obtain ⟨LB, hLB⟩ : ∃ L, belowL m id = L := ⟨_, rfl⟩
  have HKS : Hid (ksL m id = id :: LB) := Lib.hid (by rw [← hLB]; rfl)
  have hlb : LB.length ≤ 4096 := by have := HCM.out.tree.below_len HX.out.1; rw [HX.out.2, hLB, HN.out] at this; omega
  have HUD := Lib.hid (fun (w' : World) (hb : Below w.heap.size w w') => down_any A c m w' F (fun b hb2 => Nat.lt_of_lt_of_le (hF b hb2) hb.size) (HH.out.keep ENode.stays (Keep.below hb hF) (fun _ h => h)) HCM.out.tree HS.out HK4.out (by rw [HN.out]; omega) x HX.out.1)
  rw [HN.out, HX.out.2, hLB] at HUD
  clear hLB
  have HR3 := HR.out.lt
  have HON : Hid (OwnI v2 (w.heap.size + 2) (.slice none 0 0) []) := Lib.hid (OwnI.nil _ _)
  have HOI1 := Lib.hid (OwnI.alloc HON.out (.cells #[.int .i64 id] 3))
  go_wp2_with (at_builtin; refine wpList_pushI rfl (.tmp 60) (.tmp 62) rfl ?a1 HOI1.out id v2.heap.size ?a2 ?a3 ?a4 ?a5 ?a6)
  case a1 => rfl
  case a2 => rfl
  case a3 => exact Blk.new _ _ _
  case a4 => simp
  case a5 => simp; omega
  case a6 =>
   intro A2 c2 v3 own2 hg2 _
   have hga : Below v2.heap.size v2 (v2.alloc (.cells #[.int .i64 id] 3)) := (Below.refl _ _).alloc (Nat.le_refl _) _
   replace HB_w : Hid (Below w.heap.size w v3) := Lib.hid ((HB_w.out.trans (hga.mono HB_w.out.size)).grown hg2 (by have := HB_w.out.size; have := hga.size; omega) (fun k e => by cases e))
   replace HM := Lib.hid ((HM.out.below hga HM.out.lt).grown hg2 (fun e => by cases e))
   replace HR := Lib.hid ((HR.out.below hga HR.out.lt).grown hg2 (fun e => by cases e))
   have HOA : Hid (OwnI v3 (w.heap.size + 2) (.slice A2 1 c2) [id]) := Lib.hid own2
   clear own2 hg2 hga HOI1 HON HR3
   have HMc0 := HM.out.cell 0
   have HMc1 := HM.out.cell 1
   have HMlt := HM.out.lt
   simp at HMc0 HMc1
   go_wp2_with fail
   refine (HUD.out _ HB_w.out).mono ?_
   rintro _ v4 ⟨vl, rfl, hown, hb⟩
   obtain ⟨Al, cl, rfl⟩ := hown.shape
   have HRW : Hid (RowOf 1 EInt v4 (fun b => b < v4.heap.size) Al LB) := Lib.hid (by
    obtain ⟨A', c', e, _, _, h3⟩ := hown.isRow (F := fun b => b < v4.heap.size) (fun b _ h => h)
    injection e with e1; subst e1; exact h3)
   replace HOA := Lib.hid (OwnI.below HOA.out hb)
   replace HB_w : Hid (Below w.heap.size w v4) := Lib.hid (HB_w.out.trans (hb.mono HB_w.out.size))
   replace HM := Lib.hid (HM.out.below hb HM.out.lt)
   replace HR := Lib.hid (HR.out.below hb HR.out.lt)
   clear hown hb HUD HMc0 HMc1 HMlt
   have HR3 := HR.out.lt
   go_wp2_with (at_builtin; refine wpList_joinI rfl (.tmp 64) (.tmp 67) rfl ?a1 HOA.out Al cl LB _ ?a2 HRW.out ?a4 ?a5 ?a6)
   case a1 => rfl
   case a2 => rfl
   case a4 => simp; omega
   case a5 => omega
   case a6 =>
    intro A3 c3 v5 own3 hg3 _
    replace HB_w : Hid (Below w.heap.size w v5) := Lib.hid (HB_w.out.grown hg3 HB_w.out.size (fun k e => by have := (HOA.out.lt k e).1; omega))
    replace HM := Lib.hid (HM.out.grown hg3 (fun e => by have := (HOA.out.lt _ e.symm).1; omega))
    replace HR := Lib.hid (HR.out.grown hg3 (fun e => by have := (HOA.out.lt _ e.symm).1; omega))
    obtain ⟨KS, hks⟩ : ∃ z, id :: LB = z := ⟨_, rfl⟩
    obtain ⟨kl, hkl⟩ : ∃ z, KS.length = z := ⟨_, rfl⟩
    have HKL := Lib.hid hkl
    have hkl2 : [id].length + LB.length = kl := by rw [← hkl, ← hks]; simp; omega
    have hklb : kl ≤ 4097 ∧ 1 ≤ kl := by rw [← hkl2]; simp; omega
    simp only [List.length_cons, List.length_nil, Nat.zero_add] at hkl2 own3 ⊢
    rw [hkl2] at own3 ⊢
    have HKO : Hid (OwnI v5 (w.heap.size + 2) (.slice A3 kl c3) KS) := Lib.hid (by rw [← hks]; exact own3)
    rw [hks] at HKS
    clear own3 hg3 HOA HRW HR3 hks hkl hkl2
    have w1 : IntKind.i64.wrap ((n : Int) + (kl : Int)) = n + kl := by rw [IntKind.wrap_i64]; omega
    have w2 : IntKind.i64.wrap (m.next + (kl : Int)) = m.next + kl := by rw [IntKind.wrap_i64]; omega
    by_cases hf1 : 4096 < n + kl
    ·have E : Hid (EE = 4) := Lib.hid (by rw [← HEE.out, copyE_full HCM.out HWD.out HNN.out HGE.out (.inl (by rw [HKS.out, HKL.out, HN.out]; exact hf1))])
     have g7 : decide ((4096 : Int) < (n : Int) + (kl : Int)) = true := decide_eq_true (by omega)
     have HMc0 := HM.out.cell 0
     have HMc1 := HM.out.cell 1
     have HMlt := HM.out.lt
     simp at HMc0 HMc1
     have t0 := HR.out.frozen 0; have t1 := HR.out.frozen 1
     have r0 := HR.out.cell 0; have r1 := HR.out.cell 1
     have hrlt := HR.out.lt
     simp at r0 r1
     go_wp2_with fail
     have hyS := (HR.out.set_ 0 (.int .i64 0)).set_ 1 (.slice none 0 0)
     have f0 := hyS.cell 0; have f1 := hyS.cell 1
     simp at f0 f1
     have HBW := Lib.hid ((HB_w.out.setCell (p := ⟨w.heap.size + 1, 0, none⟩) (by show w.heap.size ≤ w.heap.size + 1; omega) (.int .i64 0)).setCell (p := ⟨w.heap.size + 1, 1, none⟩) (by show w.heap.size ≤ w.heap.size + 1; omega) (.slice none 0 0))
     exact bodyPost_ret (v := .tuple #[.agg #[.int .i64 0, .slice none 0 0], .int .i64 0, .int .i64 (4)]) (by simp [results, Try.results50, go_sem, f0, f1]) rfl ⟨⟨_, rfl, Or.inl ⟨by rw [E.out]; decide, by rw [E.out]⟩⟩, HBW.out⟩
    ·have g7 : decide ((4096 : Int) < (n : Int) + (kl : Int)) = false := decide_eq_false (by omega)
     by_cases hf2 : 1048577 < m.next + kl
     ·have E : Hid (EE = 4) := Lib.hid (by rw [← HEE.out, copyE_full HCM.out HWD.out HNN.out HGE.out (.inr (by rw [HKS.out, HKL.out]; exact hf2))])
      have g8 : decide ((1048577 : Int) < m.next + (kl : Int)) = true := decide_eq_true hf2
      have HMc0 := HM.out.cell 0
      have HMc1 := HM.out.cell 1
      have HMlt := HM.out.lt
      simp at HMc0 HMc1
      have t0 := HR.out.frozen 0; have t1 := HR.out.frozen 1
      have r0 := HR.out.cell 0; have r1 := HR.out.cell 1
      have hrlt := HR.out.lt
      simp at r0 r1
      go_wp2_with fail
      have hyS := (HR.out.set_ 0 (.int .i64 0)).set_ 1 (.slice none 0 0)
      have f0 := hyS.cell 0; have f1 := hyS.cell 1
      simp at f0 f1
      have HBW := Lib.hid ((HB_w.out.setCell (p := ⟨w.heap.size + 1, 0, none⟩) (by show w.heap.size ≤ w.heap.size + 1; omega) (.int .i64 0)).setCell (p := ⟨w.heap.size + 1, 1, none⟩) (by show w.heap.size ≤ w.heap.size + 1; omega) (.slice none 0 0))
      exact bodyPost_ret (v := .tuple #[.agg #[.int .i64 0, .slice none 0 0], .int .i64 0, .int .i64 (4)]) (by simp [results, Try.results50, go_sem, f0, f1]) rfl ⟨⟨_, rfl, Or.inl ⟨by rw [E.out]; decide, by rw [E.out]⟩⟩, HBW.out⟩
     ·have E : Hid (EE = 0) := Lib.hid (by rw [← HEE.out, copyE_ok HCM.out HWD.out HNN.out HGE.out (by rw [HKS.out, HKL.out, HN.out]; omega)])
      have g8 : decide ((1048577 : Int) < m.next + (kl : Int)) = false := decide_eq_false hf2
      clear g4 g7 g8
      have HMc0 := HM.out.cell 0
      have HMc1 := HM.out.cell 1
      have HMlt := HM.out.lt
      simp at HMc0 HMc1
      have HTW := Lib.hid (twinR_any A c m v5 F (fun b hb => Nat.lt_of_lt_of_le (hF b hb) HB_w.out.size) (HH.out.keep ENode.stays (Keep.below HB_w.out hF) (fun _ h => h)) HZ'.out (by rw [HN.out]; omega))
      rw [HN.out] at HTW
      have g7 : decide ((4096 : Int) < (n : Int) + (kl : Int)) = false := decide_eq_false (by omega)
      have g8 : decide ((1048577 : Int) < m.next + (kl : Int)) = false := decide_eq_false (by omega)
      go_wp2_with fail
      refine HTW.out.mono ?_
      rintro _ ut ⟨vt, rfl, l, hown, hlm, hb⟩
      clear g7 g8 HTW HMc0 HMc1 HMlt
      have hll : l.length = n := by rw [← HN.out, ← hlm, List.length_map]
      have hul : v5.heap.size ≤ ut.heap.size := hb.size
      have HB_v5 : Hid (Below v5.heap.size v5 ut) := Lib.hid hb
      obtain ⟨At, ct, rfl⟩ := own_shape hown.row
      rw [hll] at hown ⊢
      have HO := Lib.hid hown; have HLM := Lib.hid hlm
      clear hb hown hlm
      obtain ⟨u1, hu⟩ : ∃ u : World, ut.alloc (.cells #[.int .i64 m.next, .slice At n ct] 24) = u := ⟨_, rfl⟩
      have HBU : Below ut.heap.size ut u1 := by rw [← hu]; exact (Below.refl _ _).alloc (Nat.le_refl _) _
      have HP : Hid (Blk u1 ut.heap.size 24 #[.int .i64 m.next, .slice At n ct]) := Lib.hid (by rw [← hu]; exact Blk.new _ _ _)
      have HUE := Lib.hid hu
      clear hu
      replace HB_v5 : Hid (Below v5.heap.size v5 u1) := Lib.hid (HB_v5.out.trans (HBU.mono HB_v5.out.size))
      clear HBU
      replace HO := Lib.hid (HO.out.below (show Below ut.heap.size ut u1 from by rw [← HUE.out]; exact (Below.refl ut.heap.size ut).alloc (Nat.le_refl _) _))
      obtain ⟨hp, hhp⟩ : ∃ z, ut.heap.size = z := ⟨_, rfl⟩
      have HHP : Hid (ut.heap.size = hp) := Lib.hid hhp
      rw [hhp] at HP hul
      clear hhp
      go_upto_region 16 with fail
      rw [HUE.out, HHP.out]
      clear HUE HHP
      go_wp2_with fail
      go_loopg [16] kl (fun q s16 wx => ∃ (i : Nat) (vo : Value) (lo : List LN), s16 = .int .i64 i ∧ q = kl - i ∧ i ≤ kl ∧ Below v5.heap.size v5 wx ∧ Blk wx hp 24 #[.int .i64 m.next, vo] ∧ OwnM wx v5.heap.size vo lo ∧ lo.map LN.n = m.nodes ++ copiesTo m KS i)
      case atStart => exact ⟨0, _, l, rfl, rfl, Nat.zero_le _, HB_v5.out, HP.out, HO.out, by rw [HLM.out]; simp [copiesTo]⟩
      case round =>
       clear HB_v5 HP HO HLM
       obtain ⟨i, vo, lo, rfl, rfl, hik, hb, hpb, hown, hlm⟩ := hrel
       have HB_v5 := Lib.hid hb; have HP := Lib.hid hpb; have HO := Lib.hid hown; have HLM := Lib.hid hlm
       have HLO : Hid (lo.length = n + i) := Lib.hid (by rw [← List.length_map (f := LN.n), hlm, List.length_append, copies_len, HN.out])
       clear hb hpb hown hlm
       by_cases hlt : i < kl
       ·obtain ⟨gk, cap, e, _, _, hgB, _⟩ := own_some HKO.out (by rw [HKL.out]; omega)
        injection e with e1 e3 e2
        clear e3
        subst e1; subst e2
        obtain ⟨k, hk⟩ : ∃ k, KS[i]'(by rw [HKL.out]; exact hlt) = k := ⟨_, rfl⟩
        have HKD : Hid (KS.getD i 0 = k) := Lib.hid (by rw [List.getD_eq_getElem?_getD, List.getElem?_eq_getElem (by rw [HKL.out]; exact hlt), hk]; rfl)
        have HKM : Hid (k ∈ ksL m x.id) := Lib.hid (by rw [HX.out.2, HKS.out, ← hk]; exact List.getElem_mem _)
        obtain ⟨y2, hy2, hy2k⟩ := ks_node HCM.out.tree HX.out.1 HKM.out
        have HY2 := Lib.hid hy2
        obtain ⟨t, ht, hty⟩ := List.getElem_of_mem hy2
        have htn : t < n := by rw [← HN.out]; exact ht
        have HAK : Hid (atI m.nodes k = t) := Lib.hid (by rw [← hy2k, ← hty]; exact atI_some HS.out.1 ht rfl)
        have HNO : Hid (nodeOf m (KS.getD i 0) = y2) := Lib.hid (by rw [HKD.out, ← hy2k]; exact HCM.out.tree.nodeOf hy2)
        obtain ⟨b, off, Sp, cp, Sk, ck, Sr, cr, rfl, hbF, d0, d1, d2, d3, d4, d5, d6, hpp, hkk, hrr⟩ := node_at (HH.out.keep ENode.stays (Keep.below HB_w.out hF) (F' := F) (fun _ h => h)) ht
        rw [hty] at d0 d1 d2 d3 d4 d5 d6 hpp hkk hrr
        have HPP := Lib.hid hpp.2.2; have HKK := Lib.hid hkk.2.2; have HRR := Lib.hid hrr.2.2
        have HF5 : Hid (∀ b, F b → b < v5.heap.size) := Lib.hid (fun b h => Nat.lt_of_lt_of_le (hF b h) HB_w.out.size)
        have HSX : Hid (∀ w', Below v5.heap.size v5 w' → w'.cell? ⟨w.heap.size, 0, none⟩ = some (.int .i64 m.next) ∧ w'.cell? ⟨w.heap.size, 1, none⟩ = some (.slice (some ⟨b, off, none⟩) n c) ∧ w'.cell? ⟨gk, i, none⟩ = some (.int .i64 k) ∧ w'.cell? ⟨b, off + t * 7, none⟩ = some (.int .i64 y2.id) ∧ w'.cell? ⟨b, off + t * 7 + 1, none⟩ = some (.string y2.concept) ∧ w'.cell? ⟨b, off + t * 7 + 2, none⟩ = some (.int .i64 y2.parent) ∧ w'.cell? ⟨b, off + t * 7 + 3, none⟩ = some (.string y2.role) ∧ w'.cell? ⟨b, off + t * 7 + 4, none⟩ = some (.slice Sp y2.props.length cp) ∧ w'.cell? ⟨b, off + t * 7 + 5, none⟩ = some (.slice Sk y2.kids.length ck) ∧ w'.cell? ⟨b, off + t * 7 + 6, none⟩ = some (.slice Sr y2.refs.length cr)) := Lib.hid (fun w' hb => by
         have h1 := HM.out.below hb HM.out.lt
         have m0 := h1.cell 0; have m1 := h1.cell 1
         simp at m0 m1
         have hko := OwnI.below HKO.out hb
         rw [← HKL.out] at hko
         have kk := own_cell hko i (by rw [HKL.out]; omega)
         rw [List.getElem?_map, List.getElem?_eq_getElem (by rw [HKL.out]; exact hlt), hk] at kk
         have hq : b < v5.heap.size := HF5.out _ hbF
         have cc : ∀ q, w'.cell? ⟨b, q, none⟩ = v5.cell? ⟨b, q, none⟩ := fun q => hb.cell (p := ⟨b, q, none⟩) hq
         exact ⟨m0, m1, kk, (cc _).trans d0, (cc _).trans d1, (cc _).trans d2, (cc _).trans d3, (cc _).trans d4, (cc _).trans d5, (cc _).trans d6⟩)
        clear d0 d1 d2 d3 d4 d5 d6 hpp hkk hrr hty hy2k hk hy2 ht
        have hlt' : (i : Int) < kl := by omega
        have i0 : (0 : Int) ≤ i := by omega
        have t1 : (t : Int) < n := by omega
        have t0 : (0 : Int) ≤ t := by omega
        have HPL := Lib.hid (fun (w' : World) (hb : Below v5.heap.size v5 w') => at_any (some ⟨b, off, none⟩) c m.next k m.nodes w' F (fun b hb2 => Nat.lt_of_lt_of_le (HF5.out b hb2) hb.size) (HH.out.keep ENode.stays (Keep.below (HB_w.out.trans (hb.mono HB_w.out.size)) hF) (fun _ h => h)) HS.out.1 (by rw [HN.out]; omega))
        rw [HAK.out, HN.out] at HPL
        have HNL := Lib.hid (fun (w' : World) (hb : Below v5.heap.size v5 w') => rnode_any y2 Sp Sk Sr cp ck cr w' F (fun b hb2 => Nat.lt_of_lt_of_le (HF5.out b hb2) hb.size) (HZ'.out y2 HY2.out) (HPP.out.keep EProp.stays (Keep.below hb HF5.out) (fun _ h => h)) (HKK.out.keep EInt.stays (Keep.below hb HF5.out) (fun _ h => h)) (HRR.out.keep ERef.stays (Keep.below hb HF5.out) (fun _ h => h)))
        go_upto_region 19 with fail
        go_cut [17] (fun s17 wx => ∃ (nb : Nat) (vP vK vR : Value), s17 = .pointer (some ⟨nb, 0, none⟩) ∧ Below v5.heap.size v5 wx ∧ Blk wx hp 24 #[.int .i64 m.next, vo] ∧ OwnM wx v5.heap.size vo lo ∧ Blk wx nb 38 #[.int .i64 y2.id, .string y2.concept, .int .i64 y2.parent, .string y2.role, vP, vK, vR] ∧ OwnL wx v5.heap.size ⟨y2, vP, vK, vR⟩ ∧ (∀ b, (LN.blocks ⟨y2, vP, vK, vR⟩).count (some b) ≤ 1) ∧ (∀ b, some b ∈ LN.blocks ⟨y2, vP, vK, vR⟩ → b ≠ nb ∧ some b ∉ (vo.ownBlock :: allBlocks lo)) ∧ (∀ b, some b ∈ (vo.ownBlock :: allBlocks lo) → b ≠ nb) ∧ v5.heap.size ≤ nb ∧ hp < nb)
        case first =>
         obtain ⟨u, hu⟩ : ∃ u : World, wr.drew = u := ⟨_, rfl⟩
         have hb : Below wr.heap.size wr u := by rw [← hu]; exact (Below.refl _ _).drew
         replace HO := Lib.hid (HO.out.below hb)
         replace HB_v5 : Hid (Below v5.heap.size v5 u) := Lib.hid (HB_v5.out.trans (hb.mono HB_v5.out.size))
         replace HP := Lib.hid (HP.out.below hb HP.out.lt)
         clear hb
         refine wp_region_Y (S := (fun w' : World => w'.cell? ⟨w.heap.size, 0, none⟩ = some (.int .i64 m.next) ∧ w'.cell? ⟨w.heap.size, 1, none⟩ = some (.slice (some ⟨b, off, none⟩) n c) ∧ w'.cell? ⟨gk, i, none⟩ = some (.int .i64 k) ∧ w'.cell? ⟨b, off + t * 7, none⟩ = some (.int .i64 y2.id) ∧ w'.cell? ⟨b, off + t * 7 + 1, none⟩ = some (.string y2.concept) ∧ w'.cell? ⟨b, off + t * 7 + 2, none⟩ = some (.int .i64 y2.parent) ∧ w'.cell? ⟨b, off + t * 7 + 3, none⟩ = some (.string y2.role) ∧ w'.cell? ⟨b, off + t * 7 + 4, none⟩ = some (.slice Sp y2.props.length cp) ∧ w'.cell? ⟨b, off + t * 7 + 5, none⟩ = some (.slice Sk y2.kids.length ck) ∧ w'.cell? ⟨b, off + t * 7 + 6, none⟩ = some (.slice Sr y2.refs.length cr))) 12 (by kernel_rfl) (by rw [hu]; exact HSX.out _ HB_v5.out) (fun hHeld => ?_)
         rw [hu] at hHeld ⊢
         clear hu
         refine wpAnyY_take (i := 0) (v := ?_) rfl (by kernel_rfl) (by kernel_rfl) (by kernel_rfl) (by kernel_rfl) (fun _ _ _ h => h) (Or.inl ⟨by rfl, ?_⟩) (by assumption) ?_
         rotate_left 1
         ·(intro w' hSw; obtain ⟨s0, s1, s2, s3, s4, s5, s6, s7, s8, s9⟩ := hSw; go_simp); try with_reducible rfl
         try simp only [Act.put, List.setIfInBounds_toArray, List.set_cons_zero, List.set_cons_succ, Nat.zero_add]
         refine wpAnyY_take (i := 1) (v := ?_) rfl (by kernel_rfl) (by kernel_rfl) (by kernel_rfl) (by kernel_rfl) (fun _ _ _ h => h) (Or.inl ⟨by rfl, ?_⟩) (by assumption) ?_
         rotate_left 1
         ·(intro w' hSw; obtain ⟨s0, s1, s2, s3, s4, s5, s6, s7, s8, s9⟩ := hSw; go_simp); try with_reducible rfl
         try simp only [Act.put, List.setIfInBounds_toArray, List.set_cons_zero, List.set_cons_succ, Nat.zero_add]
         refine wpAnyY_take (i := 2) (v := ?_) rfl (by kernel_rfl) (by kernel_rfl) (by kernel_rfl) (by kernel_rfl) (fun _ _ _ h => h) (Or.inl ⟨by rfl, ?_⟩) (by assumption) ?_
         rotate_left 1
         ·(intro w' hSw; obtain ⟨s0, s1, s2, s3, s4, s5, s6, s7, s8, s9⟩ := hSw; go_simp); try with_reducible rfl
         try simp only [Act.put, List.setIfInBounds_toArray, List.set_cons_zero, List.set_cons_succ, Nat.zero_add]
         refine wpAnyY_take (i := 3) (v := ?_) rfl (by kernel_rfl) (by kernel_rfl) (by kernel_rfl) (by kernel_rfl) (fun _ _ _ h => h) (Or.inl ⟨by rfl, ?_⟩) (by assumption) ?_
         rotate_left 1
         ·(intro w' hSw; obtain ⟨s0, s1, s2, s3, s4, s5, s6, s7, s8, s9⟩ := hSw; go_simp); try with_reducible rfl
         try simp only [Act.put, List.setIfInBounds_toArray, List.set_cons_zero, List.set_cons_succ, Nat.zero_add]
         refine wpAnyY_take (i := 4) (v := ?_) rfl (by kernel_rfl) (by kernel_rfl) (by kernel_rfl) (by kernel_rfl) (fun _ _ _ h => h) (Or.inl ⟨by rfl, ?_⟩) (by assumption) ?_
         rotate_left 1
         ·(intro w' hSw; obtain ⟨s0, s1, s2, s3, s4, s5, s6, s7, s8, s9⟩ := hSw; go_simp); try with_reducible rfl
         try simp only [Act.put, List.setIfInBounds_toArray, List.set_cons_zero, List.set_cons_succ, Nat.zero_add]
         refine wpAnyY_take (i := 5) (v := ?_) rfl (by kernel_rfl) (by kernel_rfl) (by kernel_rfl) (by kernel_rfl) (fun _ _ _ h => h) (Or.inl ⟨by rfl, ?_⟩) (by assumption) ?_
         rotate_left 1
         ·(intro w' hSw; obtain ⟨s0, s1, s2, s3, s4, s5, s6, s7, s8, s9⟩ := hSw; go_simp); try with_reducible rfl
         try simp only [Act.put, List.setIfInBounds_toArray, List.set_cons_zero, List.set_cons_succ, Nat.zero_add]
         refine wpAnyY_take (i := 6) (v := ?_) rfl (by kernel_rfl) (by kernel_rfl) (by kernel_rfl) (by kernel_rfl) (fun _ _ _ h => h) (Or.inl ⟨by rfl, ?_⟩) (by assumption) ?_
         rotate_left 1
         ·(intro w' hSw; obtain ⟨s0, s1, s2, s3, s4, s5, s6, s7, s8, s9⟩ := hSw; go_simp); try with_reducible rfl
         try simp only [Act.put, List.setIfInBounds_toArray, List.set_cons_zero, List.set_cons_succ, Nat.zero_add]
         refine wpAnyY_two (i := 7) (j := 11) rfl rfl (by kernel_rfl) (fun K hK => ?_) (fun K hK => ?_)
         ·go_simp
          refine (HPL.out _ HB_v5.out).mono ?_
          rintro _ x1 ⟨rfl, hb⟩
          replace HB_v5 : Hid (Below v5.heap.size v5 x1) := Lib.hid (HB_v5.out.trans (hb.mono HB_v5.out.size))
          replace HP := Lib.hid (HP.out.below hb HP.out.lt)
          replace HO := Lib.hid (HO.out.below hb)
          clear hb
          go_simp
          have hHeldx1 := HSX.out _ HB_v5.out
          refine hK.out _ _ (fun _ => HSX.out _ HB_v5.out) ?_
          clear hK K
          try simp only [Act.put, List.setIfInBounds_toArray, List.set_cons_zero, List.set_cons_succ, Nat.zero_add]
          refine wpAnyY_take (i := 8) (v := ?_) rfl (by kernel_rfl) (by kernel_rfl) (by kernel_rfl) (by kernel_rfl) (fun _ _ _ h => h) (Or.inl ⟨by rfl, ?_⟩) (by assumption) ?_
          rotate_left 1
          ·(intro w' hSw; obtain ⟨s0, s1, s2, s3, s4, s5, s6, s7, s8, s9⟩ := hSw; go_simp); try with_reducible rfl
          try simp only [Act.put, List.setIfInBounds_toArray, List.set_cons_zero, List.set_cons_succ, Nat.zero_add]
          refine wpAnyY_take (i := 9) (v := ?_) rfl (by kernel_rfl) (by kernel_rfl) (by kernel_rfl) (by kernel_rfl) (fun _ _ _ h => h) (Or.inl ⟨by rfl, ?_⟩) (by assumption) ?_
          rotate_left 1
          ·(intro w' hSw; obtain ⟨s0, s1, s2, s3, s4, s5, s6, s7, s8, s9⟩ := hSw; go_simp); try with_reducible rfl
          try simp only [Act.put, List.setIfInBounds_toArray, List.set_cons_zero, List.set_cons_succ, Nat.zero_add]
          refine wpAnyY_two (i := 10) (j := 11) rfl rfl (by kernel_rfl) (fun K hK => ?_) (fun K hK => ?_)
          ·go_simp
           refine (HNL.out _ HB_v5.out).mono ?_
           rintro _ x2 ⟨vP, vK, vR, rfl, hol, hcn, hb⟩
           have HSP : Hid (∀ b, some b ∈ LN.blocks ⟨y2, vP, vK, vR⟩ →  some b ∉ (vo.ownBlock :: allBlocks lo)) := Lib.hid (fun b h1 => fun h2 => by have := (hol.lt b h1).1; have := (HO.out.lt b h2).2; omega)
           have HL0 : Hid (OwnL x2 v5.heap.size ⟨y2, vP, vK, vR⟩) := Lib.hid (hol.weaken HB_v5.out.size)
           have HCN := Lib.hid hcn
           replace HB_v5 : Hid (Below v5.heap.size v5 x2) := Lib.hid (HB_v5.out.trans (hb.mono HB_v5.out.size))
           replace HP := Lib.hid (HP.out.below hb HP.out.lt)
           replace HO := Lib.hid (HO.out.below hb)
           clear hol hcn hb
           have HL := HL0
           clear HL0
           go_simp
           refine hK.out _ _ (fun _ => HSX.out _ HB_v5.out) ?_
           clear hK K
           try simp only [Act.put, List.setIfInBounds_toArray, List.set_cons_zero, List.set_cons_succ, Nat.zero_add]
           refine wpAnyY_one (i := 11) rfl (by kernel_rfl) (fun K hK => ?_)
           go_simp
           obtain ⟨x3, hu⟩ : ∃ z9 : World, x2.alloc (.cells #[.int .i64 0, .string ⟨#[]⟩, .int .i64 0, .string ⟨#[]⟩, .slice none 0 0, .slice none 0 0, .slice none 0 0] 38) = z9 := ⟨_, rfl⟩
           have hb : Below x2.heap.size x2 x3 := by rw [← hu]; exact (Below.refl _ _).alloc (Nat.le_refl _) _
           have HG0 : Hid (Blk x3 x2.heap.size 38 #[.int .i64 0, .string ⟨#[]⟩, .int .i64 0, .string ⟨#[]⟩, .slice none 0 0, .slice none 0 0, .slice none 0 0]) := Lib.hid (by rw [← hu]; exact Blk.new _ _ _)
           rw [hu]
           clear hu
           have HGV : Hid (v5.heap.size ≤ x2.heap.size ∧ hp < x2.heap.size ∧ ∀ b, some b ∈ (vo.ownBlock :: allBlocks lo) → b ≠ x2.heap.size) := Lib.hid ⟨HB_v5.out.size, HP.out.lt, fun b h => by have := (HO.out.lt b h).2; omega⟩
           have HSP2 : Hid (∀ b, some b ∈ LN.blocks ⟨y2, vP, vK, vR⟩ → b ≠ x2.heap.size ∧ some b ∉ (vo.ownBlock :: allBlocks lo)) := Lib.hid (fun b h1 => ⟨by have := (HL.out.lt b h1).2; omega, HSP.out b h1⟩)
           clear HSP
           have HSP := HSP2
           clear HSP2
           replace HB_v5 : Hid (Below v5.heap.size v5 x3) := Lib.hid (HB_v5.out.trans (hb.mono HB_v5.out.size))
           replace HP := Lib.hid (HP.out.below hb HP.out.lt)
           replace HO := Lib.hid (HO.out.below hb)
           replace HL := Lib.hid (HL.out.keep (w' := x3) fun b hb2 => hb.block b (HL.out.lt b hb2).2)
           clear hb
           have HG := HG0
           clear HG0
           have hHeldx3 := HSX.out _ HB_v5.out
           refine hK.out _ _ (fun _ => HSX.out _ HB_v5.out) ?_
           clear hK K
           try simp only [Act.put, List.setIfInBounds_toArray, List.set_cons_zero, List.set_cons_succ, Nat.zero_add]
           refine wpAnyY_one0 (i := 12) rfl (by kernel_rfl) (by kernel_rfl) (fun K hK => ?_)
           have t0 := HG.out.frozen 0; have r0 := HG.out.cell 0; have t1 := HG.out.frozen 1; have r1 := HG.out.cell 1; have t2 := HG.out.frozen 2; have r2 := HG.out.cell 2; have t3 := HG.out.frozen 3; have r3 := HG.out.cell 3; have t4 := HG.out.frozen 4; have r4 := HG.out.cell 4; have t5 := HG.out.frozen 5; have r5 := HG.out.cell 5; have t6 := HG.out.frozen 6; have r6 := HG.out.cell 6
           have hglt := HG.out.lt
           simp at r0 r1 r2 r3 r4 r5 r6
           have HSH : Hid (ShapeL ⟨y2, vP, vK, vR⟩) := Lib.hid HL.out.shape
           obtain ⟨Ap, np, cpp, Ak, nk, ckk, Ar, nr, crr, e1, e2, e3⟩ := HSH.out
           simp only at e1 e2 e3
           subst e1; subst e2; subst e3
           go_simp
           refine hK.out _ _ ?_
           clear t0 r0 t1 r1 t2 r2 t3 r3 t4 r4 t5 r5 t6 r6 hglt
           clear hK K
           try simp only [Act.put, List.setIfInBounds_toArray, List.set_cons_zero, List.set_cons_succ, Nat.zero_add]
           refine wpAnyY_done (by kernel_rfl) ?_ _
           go_wp2_with fail
           go_meet
           case rel => exact ⟨x2.heap.size, _, _, _, rfl, below_set7 HB_v5.out HGV.out.1, HP.out.far7 (by have := HGV.out.2.1; omega), HO.out.aside (fun b hb => heap_set7 (HGV.out.2.2 b hb)), HG.out.store7, HL.out.keep (fun b hb => heap_set7 (HSP.out b hb).1), HCN.out, HSP.out, HGV.out.2.2, HGV.out.1, HGV.out.2.1⟩
          ·go_simp
           obtain ⟨x5, hu⟩ : ∃ z9 : World, x1.alloc (.cells #[.int .i64 0, .string ⟨#[]⟩, .int .i64 0, .string ⟨#[]⟩, .slice none 0 0, .slice none 0 0, .slice none 0 0] 38) = z9 := ⟨_, rfl⟩
           have hb : Below x1.heap.size x1 x5 := by rw [← hu]; exact (Below.refl _ _).alloc (Nat.le_refl _) _
           have HG0 : Hid (Blk x5 x1.heap.size 38 #[.int .i64 0, .string ⟨#[]⟩, .int .i64 0, .string ⟨#[]⟩, .slice none 0 0, .slice none 0 0, .slice none 0 0]) := Lib.hid (by rw [← hu]; exact Blk.new _ _ _)
           rw [hu]
           clear hu
           have HGV : Hid (v5.heap.size ≤ x1.heap.size ∧ hp < x1.heap.size ∧ ∀ b, some b ∈ (vo.ownBlock :: allBlocks lo) → b ≠ x1.heap.size) := Lib.hid ⟨HB_v5.out.size, HP.out.lt, fun b h => by have := (HO.out.lt b h).2; omega⟩
           replace HB_v5 : Hid (Below v5.heap.size v5 x5) := Lib.hid (HB_v5.out.trans (hb.mono HB_v5.out.size))
           replace HP := Lib.hid (HP.out.below hb HP.out.lt)
           replace HO := Lib.hid (HO.out.below hb)
           clear hb
           have HG := HG0
           clear HG0
           have hHeldx5 := HSX.out _ HB_v5.out
           refine hK.out _ _ (fun _ => HSX.out _ HB_v5.out) ?_
           clear hK K
           try simp only [Act.put, List.setIfInBounds_toArray, List.set_cons_zero, List.set_cons_succ, Nat.zero_add]
           refine wpAnyY_one (i := 10) rfl (by kernel_rfl) (fun K hK => ?_)
           go_simp
           refine (HNL.out _ HB_v5.out).mono ?_
           rintro _ x6 ⟨vP, vK, vR, rfl, hol, hcn, hb⟩
           have HSP : Hid (∀ b, some b ∈ LN.blocks ⟨y2, vP, vK, vR⟩ → b ≠ x1.heap.size ∧ some b ∉ (vo.ownBlock :: allBlocks lo)) := Lib.hid (fun b h1 => ⟨by have := (hol.lt b h1).1; have := HG.out.lt; omega, fun h2 => by have := (hol.lt b h1).1; have := (HO.out.lt b h2).2; omega⟩)
           have HL0 : Hid (OwnL x6 v5.heap.size ⟨y2, vP, vK, vR⟩) := Lib.hid (hol.weaken HB_v5.out.size)
           have HCN := Lib.hid hcn
           replace HB_v5 : Hid (Below v5.heap.size v5 x6) := Lib.hid (HB_v5.out.trans (hb.mono HB_v5.out.size))
           replace HP := Lib.hid (HP.out.below hb HP.out.lt)
           replace HO := Lib.hid (HO.out.below hb)
           replace HG := Lib.hid (HG.out.below hb HG.out.lt)
           clear hol hcn hb
           have HL := HL0
           clear HL0
           go_simp
           refine hK.out _ _ (fun _ => HSX.out _ HB_v5.out) ?_
           clear hK K
           try simp only [Act.put, List.setIfInBounds_toArray, List.set_cons_zero, List.set_cons_succ, Nat.zero_add]
           refine wpAnyY_one0 (i := 12) rfl (by kernel_rfl) (by kernel_rfl) (fun K hK => ?_)
           have t0 := HG.out.frozen 0; have r0 := HG.out.cell 0; have t1 := HG.out.frozen 1; have r1 := HG.out.cell 1; have t2 := HG.out.frozen 2; have r2 := HG.out.cell 2; have t3 := HG.out.frozen 3; have r3 := HG.out.cell 3; have t4 := HG.out.frozen 4; have r4 := HG.out.cell 4; have t5 := HG.out.frozen 5; have r5 := HG.out.cell 5; have t6 := HG.out.frozen 6; have r6 := HG.out.cell 6
           have hglt := HG.out.lt
           simp at r0 r1 r2 r3 r4 r5 r6
           have HSH : Hid (ShapeL ⟨y2, vP, vK, vR⟩) := Lib.hid HL.out.shape
           obtain ⟨Ap, np, cpp, Ak, nk, ckk, Ar, nr, crr, e1, e2, e3⟩ := HSH.out
           simp only at e1 e2 e3
           subst e1; subst e2; subst e3
           go_simp
           refine hK.out _ _ ?_
           clear t0 r0 t1 r1 t2 r2 t3 r3 t4 r4 t5 r5 t6 r6 hglt
           clear hK K
           try simp only [Act.put, List.setIfInBounds_toArray, List.set_cons_zero, List.set_cons_succ, Nat.zero_add]
           refine wpAnyY_done (by kernel_rfl) ?_ _
           go_wp2_with fail
           go_meet
           case rel => exact ⟨x1.heap.size, _, _, _, rfl, below_set7 HB_v5.out HGV.out.1, HP.out.far7 (by have := HGV.out.2.1; omega), HO.out.aside (fun b hb => heap_set7 (HGV.out.2.2 b hb)), HG.out.store7, HL.out.keep (fun b hb => heap_set7 (HSP.out b hb).1), HCN.out, HSP.out, HGV.out.2.2, HGV.out.1, HGV.out.2.1⟩
         ·go_simp
          obtain ⟨x8, hu⟩ : ∃ z9 : World, u.alloc (.cells #[.int .i64 0, .string ⟨#[]⟩, .int .i64 0, .string ⟨#[]⟩, .slice none 0 0, .slice none 0 0, .slice none 0 0] 38) = z9 := ⟨_, rfl⟩
          have hb : Below u.heap.size u x8 := by rw [← hu]; exact (Below.refl _ _).alloc (Nat.le_refl _) _
          have HG0 : Hid (Blk x8 u.heap.size 38 #[.int .i64 0, .string ⟨#[]⟩, .int .i64 0, .string ⟨#[]⟩, .slice none 0 0, .slice none 0 0, .slice none 0 0]) := Lib.hid (by rw [← hu]; exact Blk.new _ _ _)
          rw [hu]
          clear hu
          have HGV : Hid (v5.heap.size ≤ u.heap.size ∧ hp < u.heap.size ∧ ∀ b, some b ∈ (vo.ownBlock :: allBlocks lo) → b ≠ u.heap.size) := Lib.hid ⟨HB_v5.out.size, HP.out.lt, fun b h => by have := (HO.out.lt b h).2; omega⟩
          replace HB_v5 : Hid (Below v5.heap.size v5 x8) := Lib.hid (HB_v5.out.trans (hb.mono HB_v5.out.size))
          replace HP := Lib.hid (HP.out.below hb HP.out.lt)
          replace HO := Lib.hid (HO.out.below hb)
          clear hb
          have HG := HG0
          clear HG0
          have hHeldx8 := HSX.out _ HB_v5.out
          refine hK.out _ _ (fun _ => HSX.out _ HB_v5.out) ?_
          clear hK K
          try simp only [Act.put, List.setIfInBounds_toArray, List.set_cons_zero, List.set_cons_succ, Nat.zero_add]
          refine wpAnyY_one (i := 7) rfl (by kernel_rfl) (fun K hK => ?_)
          go_simp
          refine (HPL.out _ HB_v5.out).mono ?_
          rintro _ x9 ⟨rfl, hb⟩
          replace HB_v5 : Hid (Below v5.heap.size v5 x9) := Lib.hid (HB_v5.out.trans (hb.mono HB_v5.out.size))
          replace HP := Lib.hid (HP.out.below hb HP.out.lt)
          replace HO := Lib.hid (HO.out.below hb)
          replace HG := Lib.hid (HG.out.below hb HG.out.lt)
          clear hb
          go_simp
          have hHeldx9 := HSX.out _ HB_v5.out
          refine hK.out _ _ (fun _ => HSX.out _ HB_v5.out) ?_
          clear hK K
          try simp only [Act.put, List.setIfInBounds_toArray, List.set_cons_zero, List.set_cons_succ, Nat.zero_add]
          refine wpAnyY_take (i := 8) (v := ?_) rfl (by kernel_rfl) (by kernel_rfl) (by kernel_rfl) (by kernel_rfl) (fun _ _ _ h => h) (Or.inl ⟨by rfl, ?_⟩) (by assumption) ?_
          rotate_left 1
          ·(intro w' hSw; obtain ⟨s0, s1, s2, s3, s4, s5, s6, s7, s8, s9⟩ := hSw; go_simp); try with_reducible rfl
          try simp only [Act.put, List.setIfInBounds_toArray, List.set_cons_zero, List.set_cons_succ, Nat.zero_add]
          refine wpAnyY_take (i := 9) (v := ?_) rfl (by kernel_rfl) (by kernel_rfl) (by kernel_rfl) (by kernel_rfl) (fun _ _ _ h => h) (Or.inl ⟨by rfl, ?_⟩) (by assumption) ?_
          rotate_left 1
          ·(intro w' hSw; obtain ⟨s0, s1, s2, s3, s4, s5, s6, s7, s8, s9⟩ := hSw; go_simp); try with_reducible rfl
          try simp only [Act.put, List.setIfInBounds_toArray, List.set_cons_zero, List.set_cons_succ, Nat.zero_add]
          refine wpAnyY_one (i := 10) rfl (by kernel_rfl) (fun K hK => ?_)
          go_simp
          refine (HNL.out _ HB_v5.out).mono ?_
          rintro _ x10 ⟨vP, vK, vR, rfl, hol, hcn, hb⟩
          have HSP : Hid (∀ b, some b ∈ LN.blocks ⟨y2, vP, vK, vR⟩ → b ≠ u.heap.size ∧ some b ∉ (vo.ownBlock :: allBlocks lo)) := Lib.hid (fun b h1 => ⟨by have := (hol.lt b h1).1; have := HG.out.lt; omega, fun h2 => by have := (hol.lt b h1).1; have := (HO.out.lt b h2).2; omega⟩)
          have HL0 : Hid (OwnL x10 v5.heap.size ⟨y2, vP, vK, vR⟩) := Lib.hid (hol.weaken HB_v5.out.size)
          have HCN := Lib.hid hcn
          replace HB_v5 : Hid (Below v5.heap.size v5 x10) := Lib.hid (HB_v5.out.trans (hb.mono HB_v5.out.size))
          replace HP := Lib.hid (HP.out.below hb HP.out.lt)
          replace HO := Lib.hid (HO.out.below hb)
          replace HG := Lib.hid (HG.out.below hb HG.out.lt)
          clear hol hcn hb
          have HL := HL0
          clear HL0
          go_simp
          refine hK.out _ _ (fun _ => HSX.out _ HB_v5.out) ?_
          clear hK K
          try simp only [Act.put, List.setIfInBounds_toArray, List.set_cons_zero, List.set_cons_succ, Nat.zero_add]
          refine wpAnyY_one0 (i := 12) rfl (by kernel_rfl) (by kernel_rfl) (fun K hK => ?_)
          have t0 := HG.out.frozen 0; have r0 := HG.out.cell 0; have t1 := HG.out.frozen 1; have r1 := HG.out.cell 1; have t2 := HG.out.frozen 2; have r2 := HG.out.cell 2; have t3 := HG.out.frozen 3; have r3 := HG.out.cell 3; have t4 := HG.out.frozen 4; have r4 := HG.out.cell 4; have t5 := HG.out.frozen 5; have r5 := HG.out.cell 5; have t6 := HG.out.frozen 6; have r6 := HG.out.cell 6
          have hglt := HG.out.lt
          simp at r0 r1 r2 r3 r4 r5 r6
          have HSH : Hid (ShapeL ⟨y2, vP, vK, vR⟩) := Lib.hid HL.out.shape
          obtain ⟨Ap, np, cpp, Ak, nk, ckk, Ar, nr, crr, e1, e2, e3⟩ := HSH.out
          simp only at e1 e2 e3
          subst e1; subst e2; subst e3
          go_simp
          refine hK.out _ _ ?_
          clear t0 r0 t1 r1 t2 r2 t3 r3 t4 r4 t5 r5 t6 r6 hglt
          clear hK K
          try simp only [Act.put, List.setIfInBounds_toArray, List.set_cons_zero, List.set_cons_succ, Nat.zero_add]
          refine wpAnyY_done (by kernel_rfl) ?_ _
          go_wp2_with fail
          go_meet
          case rel => exact ⟨u.heap.size, _, _, _, rfl, below_set7 HB_v5.out HGV.out.1, HP.out.far7 (by have := HGV.out.2.1; omega), HO.out.aside (fun b hb => heap_set7 (HGV.out.2.2 b hb)), HG.out.store7, HL.out.keep (fun b hb => heap_set7 (HSP.out b hb).1), HCN.out, HSP.out, HGV.out.2.2, HGV.out.1, HGV.out.2.1⟩
        case rest =>
         obtain ⟨nb, vP, vK, vR, rfl, hb, hpb, hown, hnb, hol, hcn, hsp, hvo, hnbv, hpn⟩ := hcut
         clear HB_v5 HP HO HPL HNL
         obtain ⟨wq, rfl⟩ : ∃ v : World, v = wc := ⟨_, rfl⟩
         obtain ⟨Ap, np, rfl⟩ : ∃ A c, vP = .slice A y2.props.length c := own_shape hol.p
         obtain ⟨Ak, nk, rfl⟩ : ∃ A c, vK = .slice A y2.kids.length c := hol.k.shape
         obtain ⟨Ar, nr, rfl⟩ : ∃ A c, vR = .slice A y2.refs.length c := own_shape hol.r
         have HB_v5 := Lib.hid hb; have HP := Lib.hid hpb; have HO := Lib.hid hown; have HG := Lib.hid hnb; have HL := Lib.hid hol; have HCN := Lib.hid hcn; have HSP := Lib.hid hsp; have HVO := Lib.hid hvo
         clear hb hpb hown hnb hol hcn hsp hvo
         have wn : IntKind.i64.wrap (m.next + (i : Int)) = m.next + i := by rw [IntKind.wrap_i64]; omega
         have m0 := (HSX.out _ HB_v5.out).1
         have t0 := HG.out.frozen 0; have r0 := HG.out.cell 0
         have hglt := HG.out.lt
         simp at r0
         go_upto_region 21 with fail
         clear m0 t0 r0 hglt
         obtain ⟨u1, hu⟩ : ∃ z9 : World, wq.setCell ⟨nb, 0, none⟩ (.int .i64 (m.next + (i : Int))) = z9 := ⟨_, rfl⟩
         have HG2 : Hid (Blk u1 nb 38 #[.int .i64 (m.next + (i : Int)), .string y2.concept, .int .i64 y2.parent, .string y2.role, .slice Ap y2.props.length np, .slice Ak y2.kids.length nk, .slice Ar y2.refs.length nr]) := Lib.hid (by rw [← hu]; exact HG.out.set_ 0 (.int .i64 (m.next + (i : Int))))
         have hb2 : Below nb wq u1 := by rw [← hu]; exact (Below.refl _ _).setCell (p := ⟨nb, 0, none⟩) (Nat.le_refl _) _
         have hb : Below v5.heap.size wq u1 := hb2.mono hnbv
         have hkn : ∀ b, b ≠ nb → u1.heap[b]? = wq.heap[b]? := fun b h => by rw [← hu]; exact Below.heap_setCell _ _ _ _ h
         replace HB_v5 : Hid (Below v5.heap.size v5 u1) := Lib.hid (HB_v5.out.trans hb)
         replace HP := Lib.hid (HP.out.below hb2 (by omega))
         replace HO : Hid (OwnM u1 v5.heap.size vo lo) := Lib.hid (HO.out.aside (fun b h => hkn b (HVO.out b h)))
         replace HL : Hid (OwnL u1 v5.heap.size ⟨y2, .slice Ap y2.props.length np, .slice Ak y2.kids.length nk, .slice Ar y2.refs.length nr⟩) := Lib.hid (HL.out.keep (fun b h => hkn b (HSP.out b h).1))
         rw [hu]
         clear hu hb hb2 hkn HG
         have HG := HG2
         clear HG2
         obtain ⟨pa, hpa⟩ : ∃ z : Int, (if i = 0 then 0 else m.next + idxI KS y2.parent) = z := ⟨_, rfl⟩
         have HPA := Lib.hid hpa
         clear hpa
         go_upto_if 110 with fail
         go_cut [16] (fun s16 wx => s16 = .int .i64 i ∧ Below v5.heap.size v5 wx ∧ Blk wx hp 24 #[.int .i64 m.next, vo] ∧ OwnM wx v5.heap.size vo lo ∧ Blk wx nb 38 #[.int .i64 (m.next + (i : Int)), .string y2.concept, .int .i64 pa, .string y2.role, .slice Ap y2.props.length np, .slice Ak y2.kids.length nk, .slice Ar y2.refs.length nr] ∧ OwnL wx v5.heap.size ⟨y2, .slice Ap y2.props.length np, .slice Ak y2.kids.length nk, .slice Ar y2.refs.length nr⟩)
         case first =>
          by_cases hi0 : i = 0
          ·have q1 : ((i : Int) == 0) = true := by subst hi0; rfl
           have HP0 : Hid (pa = 0) := Lib.hid (by rw [← HPA.out, if_pos hi0])
           have t0 := HG.out.frozen 2; have r0 := HG.out.cell 2
           have hglt := HG.out.lt
           simp at r0
           clear hi0
           go_wp2_with fail
           clear t0 r0 hglt
           obtain ⟨u2, hu⟩ : ∃ z9 : World, u1.setCell ⟨nb, 2, none⟩ (.int .i64 0) = z9 := ⟨_, rfl⟩
           have HG2 : Hid (Blk u2 nb 38 #[.int .i64 (m.next + (i : Int)), .string y2.concept, .int .i64 0, .string y2.role, .slice Ap y2.props.length np, .slice Ak y2.kids.length nk, .slice Ar y2.refs.length nr]) := Lib.hid (by rw [← hu]; exact HG.out.set_ 2 (.int .i64 0))
           have hb2 : Below nb u1 u2 := by rw [← hu]; exact (Below.refl _ _).setCell (p := ⟨nb, 2, none⟩) (Nat.le_refl _) _
           have hb : Below v5.heap.size u1 u2 := hb2.mono hnbv
           have hkn : ∀ b, b ≠ nb → u2.heap[b]? = u1.heap[b]? := fun b h => by rw [← hu]; exact Below.heap_setCell _ _ _ _ h
           replace HB_v5 : Hid (Below v5.heap.size v5 u2) := Lib.hid (HB_v5.out.trans hb)
           replace HP := Lib.hid (HP.out.below hb2 (by omega))
           replace HO : Hid (OwnM u2 v5.heap.size vo lo) := Lib.hid (HO.out.aside (fun b h => hkn b (HVO.out b h)))
           replace HL : Hid (OwnL u2 v5.heap.size ⟨y2, .slice Ap y2.props.length np, .slice Ak y2.kids.length nk, .slice Ar y2.refs.length nr⟩) := Lib.hid (HL.out.keep (fun b h => hkn b (HSP.out b h).1))
           rw [hu]
           clear hu hb hb2 hkn HG
           have HG := HG2
           clear HG2
           have HG2 : Hid (Blk u2 nb 38 #[.int .i64 (m.next + (i : Int)), .string y2.concept, .int .i64 pa, .string y2.role, .slice Ap y2.props.length np, .slice Ak y2.kids.length nk, .slice Ar y2.refs.length nr]) := Lib.hid (by rw [HP0.out]; exact HG.out)
           clear HG HP0
           have HG := HG2
           clear HG2
           go_wp2_with fail
           go_meet
           case rel => exact ⟨rfl, HB_v5.out, HP.out, HO.out, HG.out, HL.out⟩
          ·have q1 : ((i : Int) == 0) = false := beq_eq_false_iff_ne.2 (by omega)
           have HP0 : Hid (pa = m.next + idxI KS y2.parent) := Lib.hid (by rw [← HPA.out, if_neg hi0])
           obtain ⟨ix, hix⟩ : ∃ z, idxI KS y2.parent = z := ⟨_, rfl⟩
           have hixr : -1 ≤ ix ∧ ix < kl := by rw [← hix, ← HKL.out]; rcases idxI_cases KS y2.parent with ⟨q, hq, _, e, _⟩ | ⟨_, e⟩ <;> rw [e] <;> omega
           have wi : IntKind.i64.wrap (m.next + ix) = m.next + ix := by rw [IntKind.wrap_i64]; omega
           rw [hix] at HP0
           have HIX := Lib.hid hix
           clear hix hi0
           have HS23 : Hid (∀ w', Below v5.heap.size v5 w' → Blk w' nb 38 #[.int .i64 (m.next + (i : Int)), .string y2.concept, .int .i64 y2.parent, .string y2.role, .slice Ap y2.props.length np, .slice Ak y2.kids.length nk, .slice Ar y2.refs.length nr] → w'.cell? ⟨w.heap.size, 0, none⟩ = some (.int .i64 m.next) ∧ w'.cell? ⟨nb, 2, none⟩ = some (.int .i64 y2.parent)) := Lib.hid (fun w' h1 h2 => by
            have a := h2.cell 2
            simp at a
            exact ⟨(HSX.out _ h1).1, a⟩)
           have hq0 := HS23.out _ HB_v5.out HG.out
           obtain ⟨hq1, hq2⟩ := hq0
           go_upto_region 23 with fail
           clear hq1 hq2
           obtain ⟨u, hu⟩ : ∃ u : World, u1.drew = u := ⟨_, rfl⟩
           have hb2 : Below u1.heap.size u1 u := by rw [← hu]; exact (Below.refl _ _).drew
           have hb : Below v5.heap.size u1 u := hb2.mono HB_v5.out.size
           have hnbl := HG.out.lt
           have hpl := HP.out.lt
           replace HG := Lib.hid (HG.out.below hb2 hnbl)
           replace HB_v5 : Hid (Below v5.heap.size v5 u) := Lib.hid (HB_v5.out.trans hb)
           replace HP := Lib.hid (HP.out.below hb2 hpl)
           replace HO := Lib.hid (HO.out.below hb2)
           replace HL := Lib.hid (HL.out.keep (w' := u) fun b h => hb2.block b (HL.out.lt b h).2)
           have HKR : Hid (RowOf 1 EInt u (fun b => b < u.heap.size) (some ⟨gk, 0, none⟩) KS) := Lib.hid (by
            obtain ⟨A', c', e, _, _, h3⟩ := (OwnI.below HKO.out HB_v5.out).isRow (F := fun b => b < u.heap.size) (fun b _ h => h)
            injection e with e1; subst e1; exact h3)
           clear hb hb2 hnbl hpl
           refine wp_region_Y (S := (fun w' : World => w'.cell? ⟨w.heap.size, 0, none⟩ = some (.int .i64 m.next) ∧ w'.cell? ⟨nb, 2, none⟩ = some (.int .i64 y2.parent))) 8 (by kernel_rfl) (by rw [hu]; exact HS23.out _ HB_v5.out HG.out) (fun hHeld => ?_)
           rw [hu] at hHeld ⊢
           clear hu
           refine wpAnyY_take (i := 0) (v := ?_) rfl (by kernel_rfl) (by kernel_rfl) (by kernel_rfl) (by kernel_rfl) (fun _ _ _ h => h) (Or.inl ⟨by rfl, ?_⟩) (by assumption) ?_
           rotate_left 1
           ·(intro w' hSw; obtain ⟨s0, s1⟩ := hSw; go_simp); try with_reducible rfl
           try simp only [Act.put, List.setIfInBounds_toArray, List.set_cons_zero, List.set_cons_succ, Nat.zero_add]
           refine wpAnyY_take (i := 1) (v := ?_) rfl (by kernel_rfl) (by kernel_rfl) (by kernel_rfl) (by kernel_rfl) (fun _ _ _ h => h) (Or.inl ⟨by rfl, ?_⟩) (by assumption) ?_
           rotate_left 1
           ·(intro w' hSw; obtain ⟨s0, s1⟩ := hSw; go_simp); try with_reducible rfl
           try simp only [Act.put, List.setIfInBounds_toArray, List.set_cons_zero, List.set_cons_succ, Nat.zero_add]
           refine wpAnyY_take (i := 2) (v := ?_) rfl (by kernel_rfl) (by kernel_rfl) (by kernel_rfl) (by kernel_rfl) (fun _ _ _ h => h) (Or.inl ⟨by rfl, ?_⟩) (by assumption) ?_
           rotate_left 1
           ·(intro w' hSw; obtain ⟨s0, s1⟩ := hSw; go_simp); try with_reducible rfl
           try simp only [Act.put, List.setIfInBounds_toArray, List.set_cons_zero, List.set_cons_succ, Nat.zero_add]
           refine wpAnyY_take (i := 3) (v := ?_) rfl (by kernel_rfl) (by kernel_rfl) (by kernel_rfl) (by kernel_rfl) (fun _ _ _ h => h) (Or.inl ⟨by rfl, ?_⟩) (by assumption) ?_
           rotate_left 1
           ·(intro w' hSw; obtain ⟨s0, s1⟩ := hSw; go_simp); try with_reducible rfl
           try simp only [Act.put, List.setIfInBounds_toArray, List.set_cons_zero, List.set_cons_succ, Nat.zero_add]
           refine wpAnyY_take (i := 4) (v := ?_) rfl (by kernel_rfl) (by kernel_rfl) (by kernel_rfl) (by kernel_rfl) (fun _ _ _ h => h) (Or.inl ⟨by rfl, ?_⟩) (by assumption) ?_
           rotate_left 1
           ·(intro w' hSw; obtain ⟨s0, s1⟩ := hSw; go_simp); try with_reducible rfl
           try simp only [Act.put, List.setIfInBounds_toArray, List.set_cons_zero, List.set_cons_succ, Nat.zero_add]
           refine wpAnyY_one (i := 5) rfl (by kernel_rfl) (fun K hK => ?_)
           go_simp
           have HIA := Lib.hid (index_any (some ⟨gk, 0, none⟩) c3 KS y2.parent u _ HKR.out (by rw [HKL.out]; omega))
           rw [HKL.out, HIX.out] at HIA
           refine HIA.out.mono ?_
           rintro _ _ ⟨rfl, rfl⟩
           go_simp
           refine hK.out _ _ (fun _ => HS23.out _ HB_v5.out HG.out) ?_
           clear HIA
           clear hK K
           try simp only [Act.put, List.setIfInBounds_toArray, List.set_cons_zero, List.set_cons_succ, Nat.zero_add]
           refine wpAnyY_take (i := 6) (v := ?_) rfl (by kernel_rfl) (by kernel_rfl) (by kernel_rfl) (by kernel_rfl) (fun _ _ _ h => h) (Or.inl ⟨by rfl, ?_⟩) (by assumption) ?_
           rotate_left 1
           ·(intro w' hSw; obtain ⟨s0, s1⟩ := hSw; go_simp); try with_reducible rfl
           try simp only [Act.put, List.setIfInBounds_toArray, List.set_cons_zero, List.set_cons_succ, Nat.zero_add]
           refine wpAnyY_take (i := 7) (v := ?_) rfl (by kernel_rfl) (by kernel_rfl) (by kernel_rfl) (by kernel_rfl) (fun _ _ _ h => h) (Or.inl ⟨by rfl, ?_⟩) (by assumption) ?_
           rotate_left 1
           ·(intro w' hSw; obtain ⟨s0, s1⟩ := hSw; go_simp); try with_reducible rfl
           try simp only [Act.put, List.setIfInBounds_toArray, List.set_cons_zero, List.set_cons_succ, Nat.zero_add]
           refine wpAnyY_one0 (i := 8) rfl (by kernel_rfl) (by kernel_rfl) (fun K hK => ?_)
           have t0 := HG.out.frozen 2; have r0 := HG.out.cell 2
           have hglt := HG.out.lt
           simp at r0
           go_simp
           refine hK.out _ _ ?_
           clear t0 r0 hglt
           clear hK K
           try simp only [Act.put, List.setIfInBounds_toArray, List.set_cons_zero, List.set_cons_succ, Nat.zero_add]
           refine wpAnyY_done (by kernel_rfl) ?_ _
           clear hHeld HS23 HKR
           obtain ⟨u2, hu⟩ : ∃ z9 : World, u.setCell ⟨nb, 2, none⟩ (.int .i64 (m.next + ix)) = z9 := ⟨_, rfl⟩
           have HG2 : Hid (Blk u2 nb 38 #[.int .i64 (m.next + (i : Int)), .string y2.concept, .int .i64 (m.next + ix), .string y2.role, .slice Ap y2.props.length np, .slice Ak y2.kids.length nk, .slice Ar y2.refs.length nr]) := Lib.hid (by rw [← hu]; exact HG.out.set_ 2 (.int .i64 (m.next + ix)))
           have hb2 : Below nb u u2 := by rw [← hu]; exact (Below.refl _ _).setCell (p := ⟨nb, 2, none⟩) (Nat.le_refl _) _
           have hb : Below v5.heap.size u u2 := hb2.mono hnbv
           have hkn : ∀ b, b ≠ nb → u2.heap[b]? = u.heap[b]? := fun b h => by rw [← hu]; exact Below.heap_setCell _ _ _ _ h
           replace HB_v5 : Hid (Below v5.heap.size v5 u2) := Lib.hid (HB_v5.out.trans hb)
           replace HP := Lib.hid (HP.out.below hb2 (by omega))
           replace HO : Hid (OwnM u2 v5.heap.size vo lo) := Lib.hid (HO.out.aside (fun b h => hkn b (HVO.out b h)))
           replace HL : Hid (OwnL u2 v5.heap.size ⟨y2, .slice Ap y2.props.length np, .slice Ak y2.kids.length nk, .slice Ar y2.refs.length nr⟩) := Lib.hid (HL.out.keep (fun b h => hkn b (HSP.out b h).1))
           rw [hu]
           clear hu hb hb2 hkn HG
           have HG := HG2
           clear HG2
           have HG2 : Hid (Blk u2 nb 38 #[.int .i64 (m.next + (i : Int)), .string y2.concept, .int .i64 pa, .string y2.role, .slice Ap y2.props.length np, .slice Ak y2.kids.length nk, .slice Ar y2.refs.length nr]) := Lib.hid (by rw [HP0.out]; exact HG.out)
           clear HG HP0
           have HG := HG2
           clear HG2
           go_wp2_with fail
           go_meet
           case rel => exact ⟨rfl, HB_v5.out, HP.out, HO.out, HG.out, HL.out⟩
         case rest =>
          obtain ⟨rfl, hb, hpb, hown, hnb, hol⟩ := hcut
          clear HB_v5 HP HO HG HL
          obtain ⟨u2, rfl⟩ : ∃ v : World, v = wc := ⟨_, rfl⟩
          have HB_v5 := Lib.hid hb; have HP := Lib.hid hpb; have HO := Lib.hid hown; have HG := Lib.hid hnb; have HL := Lib.hid hol
          clear hb hpb hown hnb hol
          have g5 := HG.out.cell 5
          have hglt := HG.out.lt
          simp at g5
          go_wp2_with fail
          clear g5 hglt
          go_loopg [18] y2.kids.length (fun q s18 wx => ∃ jk : Nat, s18 = .int .i64 jk ∧ q = y2.kids.length - jk ∧ jk ≤ y2.kids.length ∧ Below v5.heap.size v5 wx ∧ Blk wx hp 24 #[.int .i64 m.next, vo] ∧ OwnM wx v5.heap.size vo lo ∧ Blk wx nb 38 #[.int .i64 (m.next + (i : Int)), .string y2.concept, .int .i64 pa, .string y2.role, .slice Ap y2.props.length np, .slice Ak y2.kids.length nk, .slice Ar y2.refs.length nr] ∧ OwnL wx v5.heap.size ⟨{ y2 with kids := partTo (fun k => m.next + idxI KS k) y2.kids jk }, .slice Ap y2.props.length np, .slice Ak y2.kids.length nk, .slice Ar y2.refs.length nr⟩)
          case atStart => exact ⟨0, rfl, rfl, Nat.zero_le _, HB_v5.out, HP.out, HO.out, HG.out, by rw [partTo_zero]; exact HL.out⟩
          case round =>
           clear HB_v5 HP HO HG HL
           obtain ⟨jk, rfl, rfl, hjk, hb, hpb, hown, hnb, hol⟩ := hrel
           have HB_v5 := Lib.hid hb; have HP := Lib.hid hpb; have HO := Lib.hid hown; have HG := Lib.hid hnb; have HL := Lib.hid hol
           have g5 := hnb.cell 5
           have hglt := hnb.lt
           simp at g5
           clear hb hpb hown hnb
           by_cases hlk : jk < y2.kids.length
           ·have hplen : (partTo (fun k => m.next + idxI KS k) y2.kids jk).length = y2.kids.length := partTo_len _
            have hkb := HK4.out y2 HY2.out
            obtain ⟨gq, capq, e, _, _, hgqB, _⟩ := own_some hol.k (by show 0 < (partTo (fun k => m.next + idxI KS k) y2.kids jk).length; omega)
            injection e with e1 e3 e2
            clear e3
            subst e1; subst e2
            obtain ⟨kj, hkj⟩ : ∃ z, y2.kids[jk] = z := ⟨_, rfl⟩
            have HS27 : Hid (∀ w', Below v5.heap.size v5 w' → Blk w' nb 38 #[.int .i64 (m.next + (i : Int)), .string y2.concept, .int .i64 pa, .string y2.role, .slice Ap y2.props.length np, .slice (some ⟨gq, 0, none⟩) y2.kids.length nk, .slice Ar y2.refs.length nr] → OwnI w' v5.heap.size (.slice (some ⟨gq, 0, none⟩) y2.kids.length nk) (partTo (fun k => m.next + idxI KS k) y2.kids jk) → w'.cell? ⟨w.heap.size, 0, none⟩ = some (.int .i64 m.next) ∧ w'.cell? ⟨nb, 5, none⟩ = some (.slice (some ⟨gq, 0, none⟩) y2.kids.length nk) ∧ w'.cell? ⟨gq, jk, none⟩ = some (.int .i64 kj)) := Lib.hid (fun w' h1 h2 h3 => by
             have a := h2.cell 5
             simp at a
             rw [← hplen] at h3
             have c := own_cell h3 jk (by omega)
             rw [List.getElem?_map, List.getElem?_eq_getElem (by omega), partTo_at hlk, hkj] at c
             exact ⟨(HSX.out _ h1).1, a, c⟩)
            obtain ⟨ix, hix⟩ : ∃ z, idxI KS kj = z := ⟨_, rfl⟩
            have hixr : -1 ≤ ix ∧ ix < kl := by rw [← hix, ← HKL.out]; rcases idxI_cases KS kj with ⟨q, hq, _, e, _⟩ | ⟨_, e⟩ <;> rw [e] <;> omega
            have wi : IntKind.i64.wrap (m.next + ix) = m.next + ix := by rw [IntKind.wrap_i64]; omega
            have HIX := Lib.hid hix
            have HSET : Hid ((partTo (fun k => m.next + idxI KS k) y2.kids jk).set jk (m.next + ix) = partTo (fun k => m.next + idxI KS k) y2.kids (jk + 1)) := Lib.hid (by rw [← hix, ← hkj]; exact partTo_set (f := fun k => m.next + idxI KS k) hlk)
            have HGQ : Hid (gq ≠ nb ∧ gq ≠ hp ∧ some gq ∉ (vo.ownBlock :: allBlocks lo) ∧ (Value.slice Ap y2.props.length np).ownBlock ≠ some gq ∧ (Value.slice Ar y2.refs.length nr).ownBlock ≠ some gq) := Lib.hid (by
             have h1 := HSP.out gq (by simp [LN.blocks, Value.ownBlock])
             have h2 := HCN.out gq
             refine ⟨h1.1, fun e => own_ne_ty HL.out.k HP.out (by decide) (by rw [← e]; rfl), h1.2, fun e => ?_, fun e => ?_⟩
             ·have h3 : [(Value.slice Ap y2.props.length np).ownBlock, some gq, (Value.slice Ar y2.refs.length nr).ownBlock].count (some gq) ≤ 1 := h2
              rw [e, List.count_cons_self, List.count_cons_self] at h3
              omega
             ·have h3 : [(Value.slice Ap y2.props.length np).ownBlock, some gq, (Value.slice Ar y2.refs.length nr).ownBlock].count (some gq) ≤ 1 := h2
              rw [e, List.count_cons, List.count_cons_self, List.count_cons_self] at h3
              omega)
            have k1 : (jk : Int) < y2.kids.length := by omega
            have k0 : (0 : Int) ≤ jk := by omega
            clear hol hix hkj
            go_upto_region 27 with fail
            clear g5 hglt
            obtain ⟨u, hu⟩ : ∃ u : World, wr.drew = u := ⟨_, rfl⟩
            have hb2 : Below wr.heap.size wr u := by rw [← hu]; exact (Below.refl _ _).drew
            have hb : Below v5.heap.size wr u := hb2.mono HB_v5.out.size
            have hnbl := HG.out.lt
            have hpl := HP.out.lt
            replace HG := Lib.hid (HG.out.below hb2 hnbl)
            replace HB_v5 : Hid (Below v5.heap.size v5 u) := Lib.hid (HB_v5.out.trans hb)
            replace HP := Lib.hid (HP.out.below hb2 hpl)
            replace HO := Lib.hid (HO.out.below hb2)
            replace HL := Lib.hid (HL.out.keep (w' := u) fun b h => hb2.block b (HL.out.lt b h).2)
            have HKR : Hid (RowOf 1 EInt u (fun b => b < u.heap.size) (some ⟨gk, 0, none⟩) KS) := Lib.hid (by
             obtain ⟨A', c', e, _, _, h3⟩ := (OwnI.below HKO.out HB_v5.out).isRow (F := fun b => b < u.heap.size) (fun b _ h => h)
             injection e with e1; subst e1; exact h3)
            clear hb hb2 hnbl hpl
            refine wp_region_Y (S := (fun w' : World => w'.cell? ⟨w.heap.size, 0, none⟩ = some (.int .i64 m.next) ∧ w'.cell? ⟨nb, 5, none⟩ = some (.slice (some ⟨gq, 0, none⟩) y2.kids.length nk) ∧ w'.cell? ⟨gq, jk, none⟩ = some (.int .i64 kj))) 14 (by kernel_rfl) (by rw [hu]; exact HS27.out _ HB_v5.out HG.out HL.out.k) (fun hHeld => ?_)
            rw [hu] at hHeld ⊢
            clear hu
            refine wpAnyY_take (i := 0) (v := ?_) rfl (by kernel_rfl) (by kernel_rfl) (by kernel_rfl) (by kernel_rfl) (fun _ _ _ h => h) (Or.inl ⟨by rfl, ?_⟩) (by assumption) ?_
            rotate_left 1
            ·(intro w' hSw; obtain ⟨s0, s1, s2⟩ := hSw; go_simp); try with_reducible rfl
            try simp only [Act.put, List.setIfInBounds_toArray, List.set_cons_zero, List.set_cons_succ, Nat.zero_add]
            refine wpAnyY_take (i := 1) (v := ?_) rfl (by kernel_rfl) (by kernel_rfl) (by kernel_rfl) (by kernel_rfl) (fun _ _ _ h => h) (Or.inl ⟨by rfl, ?_⟩) (by assumption) ?_
            rotate_left 1
            ·(intro w' hSw; obtain ⟨s0, s1, s2⟩ := hSw; go_simp); try with_reducible rfl
            try simp only [Act.put, List.setIfInBounds_toArray, List.set_cons_zero, List.set_cons_succ, Nat.zero_add]
            refine wpAnyY_take (i := 2) (v := ?_) rfl (by kernel_rfl) (by kernel_rfl) (by kernel_rfl) (by kernel_rfl) (fun _ _ _ h => h) (Or.inl ⟨by rfl, ?_⟩) (by assumption) ?_
            rotate_left 1
            ·(intro w' hSw; obtain ⟨s0, s1, s2⟩ := hSw; go_simp); try with_reducible rfl
            try simp only [Act.put, List.setIfInBounds_toArray, List.set_cons_zero, List.set_cons_succ, Nat.zero_add]
            refine wpAnyY_take (i := 3) (v := ?_) rfl (by kernel_rfl) (by kernel_rfl) (by kernel_rfl) (by kernel_rfl) (fun _ _ _ h => h) (Or.inl ⟨by rfl, ?_⟩) (by assumption) ?_
            rotate_left 1
            ·(intro w' hSw; obtain ⟨s0, s1, s2⟩ := hSw; go_simp); try with_reducible rfl
            try simp only [Act.put, List.setIfInBounds_toArray, List.set_cons_zero, List.set_cons_succ, Nat.zero_add]
            refine wpAnyY_take (i := 4) (v := ?_) rfl (by kernel_rfl) (by kernel_rfl) (by kernel_rfl) (by kernel_rfl) (fun _ _ _ h => h) (Or.inl ⟨by rfl, ?_⟩) (by assumption) ?_
            rotate_left 1
            ·(intro w' hSw; obtain ⟨s0, s1, s2⟩ := hSw; go_simp); try with_reducible rfl
            try simp only [Act.put, List.setIfInBounds_toArray, List.set_cons_zero, List.set_cons_succ, Nat.zero_add]
            refine wpAnyY_take (i := 5) (v := ?_) rfl (by kernel_rfl) (by kernel_rfl) (by kernel_rfl) (by kernel_rfl) (fun _ _ _ h => h) (Or.inl ⟨by rfl, ?_⟩) (by assumption) ?_
            rotate_left 1
            ·(intro w' hSw; obtain ⟨s0, s1, s2⟩ := hSw; go_simp); try with_reducible rfl
            try simp only [Act.put, List.setIfInBounds_toArray, List.set_cons_zero, List.set_cons_succ, Nat.zero_add]
            refine wpAnyY_take (i := 6) (v := ?_) rfl (by kernel_rfl) (by kernel_rfl) (by kernel_rfl) (by kernel_rfl) (fun _ _ _ h => h) (Or.inl ⟨by rfl, ?_⟩) (by assumption) ?_
            rotate_left 1
            ·(intro w' hSw; obtain ⟨s0, s1, s2⟩ := hSw; go_simp); try with_reducible rfl
            try simp only [Act.put, List.setIfInBounds_toArray, List.set_cons_zero, List.set_cons_succ, Nat.zero_add]
            refine wpAnyY_take (i := 7) (v := ?_) rfl (by kernel_rfl) (by kernel_rfl) (by kernel_rfl) (by kernel_rfl) (fun _ _ _ h => h) (Or.inl ⟨by rfl, ?_⟩) (by assumption) ?_
            rotate_left 1
            ·(intro w' hSw; obtain ⟨s0, s1, s2⟩ := hSw; go_simp); try with_reducible rfl
            try simp only [Act.put, List.setIfInBounds_toArray, List.set_cons_zero, List.set_cons_succ, Nat.zero_add]
            refine wpAnyY_take (i := 8) (v := ?_) rfl (by kernel_rfl) (by kernel_rfl) (by kernel_rfl) (by kernel_rfl) (fun _ _ _ h => h) (Or.inl ⟨by rfl, ?_⟩) (by assumption) ?_
            rotate_left 1
            ·(intro w' hSw; obtain ⟨s0, s1, s2⟩ := hSw; go_simp); try with_reducible rfl
            try simp only [Act.put, List.setIfInBounds_toArray, List.set_cons_zero, List.set_cons_succ, Nat.zero_add]
            refine wpAnyY_take (i := 9) (v := ?_) rfl (by kernel_rfl) (by kernel_rfl) (by kernel_rfl) (by kernel_rfl) (fun _ _ _ h => h) (Or.inl ⟨by rfl, ?_⟩) (by assumption) ?_
            rotate_left 1
            ·(intro w' hSw; obtain ⟨s0, s1, s2⟩ := hSw; go_simp); try with_reducible rfl
            try simp only [Act.put, List.setIfInBounds_toArray, List.set_cons_zero, List.set_cons_succ, Nat.zero_add]
            refine wpAnyY_take (i := 10) (v := ?_) rfl (by kernel_rfl) (by kernel_rfl) (by kernel_rfl) (by kernel_rfl) (fun _ _ _ h => h) (Or.inl ⟨by rfl, ?_⟩) (by assumption) ?_
            rotate_left 1
            ·(intro w' hSw; obtain ⟨s0, s1, s2⟩ := hSw; go_simp); try with_reducible rfl
            try simp only [Act.put, List.setIfInBounds_toArray, List.set_cons_zero, List.set_cons_succ, Nat.zero_add]
            refine wpAnyY_one (i := 11) rfl (by kernel_rfl) (fun K hK => ?_)
            go_simp
            have HIA := Lib.hid (index_any (some ⟨gk, 0, none⟩) c3 KS kj u _ HKR.out (by rw [HKL.out]; omega))
            rw [HKL.out, HIX.out] at HIA
            refine HIA.out.mono ?_
            rintro _ _ ⟨rfl, rfl⟩
            go_simp
            refine hK.out _ _ (fun _ => HS27.out _ HB_v5.out HG.out HL.out.k) ?_
            clear HIA
            clear hK K
            try simp only [Act.put, List.setIfInBounds_toArray, List.set_cons_zero, List.set_cons_succ, Nat.zero_add]
            refine wpAnyY_take (i := 12) (v := ?_) rfl (by kernel_rfl) (by kernel_rfl) (by kernel_rfl) (by kernel_rfl) (fun _ _ _ h => h) (Or.inl ⟨by rfl, ?_⟩) (by assumption) ?_
            rotate_left 1
            ·(intro w' hSw; obtain ⟨s0, s1, s2⟩ := hSw; go_simp); try with_reducible rfl
            try simp only [Act.put, List.setIfInBounds_toArray, List.set_cons_zero, List.set_cons_succ, Nat.zero_add]
            refine wpAnyY_take (i := 13) (v := ?_) rfl (by kernel_rfl) (by kernel_rfl) (by kernel_rfl) (by kernel_rfl) (fun _ _ _ h => h) (Or.inl ⟨by rfl, ?_⟩) (by assumption) ?_
            rotate_left 1
            ·(intro w' hSw; obtain ⟨s0, s1, s2⟩ := hSw; go_simp); try with_reducible rfl
            try simp only [Act.put, List.setIfInBounds_toArray, List.set_cons_zero, List.set_cons_succ, Nat.zero_add]
            refine wpAnyY_one0 (i := 14) rfl (by kernel_rfl) (by kernel_rfl) (fun K hK => ?_)
            have c0 := (HS27.out _ HB_v5.out HG.out HL.out.k).2.2
            have f0 : u.frozen? ⟨gq, jk, none⟩ = false := by have h := HL.out.k; rw [← hplen] at h; exact own_frozen h jk
            go_simp
            refine hK.out _ _ ?_
            clear c0 f0
            clear hK K
            try simp only [Act.put, List.setIfInBounds_toArray, List.set_cons_zero, List.set_cons_succ, Nat.zero_add]
            refine wpAnyY_done (by kernel_rfl) ?_ _
            clear hHeld HS27 HKR
            obtain ⟨u9, hu⟩ : ∃ z9 : World, u.setCell ⟨gq, jk, none⟩ (.int .i64 (m.next + ix)) = z9 := ⟨_, rfl⟩
            have hkn : ∀ b, b ≠ gq → u9.heap[b]? = u.heap[b]? := fun b h => by rw [← hu]; exact Below.heap_setCell _ _ _ _ h
            have hb : Below v5.heap.size u u9 := by rw [← hu]; exact (Below.refl _ _).setCell (p := ⟨gq, jk, none⟩) hgqB _
            have HL2 : Hid (OwnL u9 v5.heap.size ⟨{ y2 with kids := partTo (fun k => m.next + idxI KS k) y2.kids (jk + 1) }, .slice Ap y2.props.length np, .slice (some ⟨gq, 0, none⟩) y2.kids.length nk, .slice Ar y2.refs.length nr⟩) := Lib.hid ⟨own_keep HL.out.p (fun b e => hkn b (fun e2 => HGQ.out.2.2.2.1 (by rw [← e2]; exact e))), by
             have h := HL.out.k
             rw [← hplen] at h
             have h2 := own_set h (i := jk) (by rw [Nat.mul_one, hplen]; exact hlk) (.int .i64 (m.next + ix))
             rw [hu] at h2
             show OwnI u9 _ _ _
             rw [← HSET.out]
             unfold OwnI
             simpa [hplen, List.map_set] using h2, own_keep HL.out.r (fun b e => hkn b (fun e2 => HGQ.out.2.2.2.2 (by rw [← e2]; exact e)))⟩
            have HG2 : Hid (Blk u9 nb 38 #[.int .i64 (m.next + (i : Int)), .string y2.concept, .int .i64 pa, .string y2.role, .slice Ap y2.props.length np, .slice (some ⟨gq, 0, none⟩) y2.kids.length nk, .slice Ar y2.refs.length nr]) := Lib.hid ((hkn nb (Ne.symm HGQ.out.1)).trans HG.out)
            have HP2 : Hid (Blk u9 hp 24 #[.int .i64 m.next, vo]) := Lib.hid ((hkn hp (Ne.symm HGQ.out.2.1)).trans HP.out)
            have HO2 : Hid (OwnM u9 v5.heap.size vo lo) := Lib.hid (HO.out.aside (fun b h => hkn b (fun e => HGQ.out.2.2.1 (by rw [← e]; exact h))))
            have HB2 := Lib.hid (HB_v5.out.trans hb)
            rw [hu]
            clear hu hb hkn HB_v5 HP HO HG HL
            go_wp2_with fail
            go_roundg (y2.kids.length - (jk + 1))
            case measure => omega
            case rel => exact ⟨jk + 1, by go_num, rfl, by omega, HB2.out, HP2.out, HO2.out, HG2.out, HL2.out⟩
           ·have k9 : ¬ (jk : Int) < y2.kids.length := by omega
            have HL2 : Hid (OwnL wr v5.heap.size ⟨{ y2 with kids := y2.kids.map (fun k => m.next + idxI KS k), refs := partTo (refTo m.next KS) y2.refs 0 }, .slice Ap y2.props.length np, .slice Ak y2.kids.length nk, .slice Ar y2.refs.length nr⟩) := Lib.hid (by
             have h := HL.out
             rw [partTo_all (by omega)] at h
             rw [partTo_zero]; exact h)
            clear HL hol
            have g6 := HG.out.cell 6
            simp at g6
            go_wp2_with fail
            clear g6 g5 hglt k9
            clear hjk hlk
            go_loopg [19, 20] y2.refs.length (fun q s19 s20 wx => ∃ jr : Nat, s19 = .int .i64 jr ∧ q = y2.refs.length - jr ∧ jr ≤ y2.refs.length ∧ Below v5.heap.size v5 wx ∧ Blk wx hp 24 #[.int .i64 m.next, vo] ∧ OwnM wx v5.heap.size vo lo ∧ Blk wx nb 38 #[.int .i64 (m.next + (i : Int)), .string y2.concept, .int .i64 pa, .string y2.role, .slice Ap y2.props.length np, .slice Ak y2.kids.length nk, .slice Ar y2.refs.length nr] ∧ OwnL wx v5.heap.size ⟨{ y2 with kids := y2.kids.map (fun k => m.next + idxI KS k), refs := partTo (refTo m.next KS) y2.refs jr }, .slice Ap y2.props.length np, .slice Ak y2.kids.length nk, .slice Ar y2.refs.length nr⟩)
            case atStart => exact ⟨0, rfl, rfl, Nat.zero_le _, HB_v5.out, HP.out, HO.out, HG.out, HL2.out⟩
            case round =>
             clear HB_v5 HP HO HG HL2
             obtain ⟨jr, rfl, rfl, hjr, hb, hpb, hown, hnb, hol⟩ := hrel
             have HB_v5 := Lib.hid hb; have HP := Lib.hid hpb; have HO := Lib.hid hown; have HG := Lib.hid hnb; have HL := Lib.hid hol
             have g6 := hnb.cell 6
             have hglt := hnb.lt
             simp at g6
             clear hb hpb hown hnb
             by_cases hlk : jr < y2.refs.length
             ·have hplen : (partTo (refTo m.next KS) y2.refs jr).length = y2.refs.length := partTo_len _
              have hrb := (HZ'.out y2 HY2.out).2.2
              obtain ⟨gq, capq, e, _, _, hgqB, _⟩ := own_some hol.r (by show 0 < (partTo (refTo m.next KS) y2.refs jr).length; omega)
              injection e with e1 e3 e2
              clear e3
              subst e1; subst e2
              obtain ⟨rj, hrj⟩ : ∃ z, y2.refs[jr] = z := ⟨_, rfl⟩
              have hor : wr.ownsRow v5.heap.size 82 2 (.slice (some ⟨gq, 0, none⟩) y2.refs.length nr) (partTo (refTo m.next KS) y2.refs jr).length ((partTo (refTo m.next KS) y2.refs jr).flatMap refCells) := hol.r
              rw [hplen] at hor
              have gc : wr.cell? ⟨gq, jr * 2 + 1, none⟩ = some (.int .i64 rj.target) := by
               rw [own_cell hor _ (by omega), flat_at refCells_len _ jr 1 (by omega) (by omega), partTo_at hlk, hrj]; rfl
              have fc : wr.frozen? ⟨gq, jr * 2 + 1, none⟩ = false := own_frozen hor _
              have HOR := Lib.hid hor
              obtain ⟨ix, hix⟩ : ∃ z, idxI KS rj.target = z := ⟨_, rfl⟩
              have hixr : -1 ≤ ix ∧ ix < kl := by rw [← hix, ← HKL.out]; rcases idxI_cases KS rj.target with ⟨q, hq, _, e, _⟩ | ⟨_, e⟩ <;> rw [e] <;> omega
              have wi : IntKind.i64.wrap (m.next + ix) = m.next + ix := by rw [IntKind.wrap_i64]; omega
              have HIX := Lib.hid hix
              have HIN : Hid (0 ≤ ix ↔ rj.target ∈ KS) := Lib.hid (by
               rw [← hix]
               rcases idxI_cases KS rj.target with ⟨q, hq, e0, e, _⟩ | ⟨e0, e⟩
               ·rw [e]; exact ⟨fun _ => by rw [← e0]; exact List.getElem_mem hq, fun _ => by omega⟩
               ·rw [e]; exact ⟨fun h => absurd h (by omega), fun h => absurd h e0⟩)
              have HRJ := Lib.hid hrj
              have HGQ : Hid (gq ≠ nb ∧ gq ≠ hp ∧ some gq ∉ (vo.ownBlock :: allBlocks lo) ∧ (Value.slice Ap y2.props.length np).ownBlock ≠ some gq ∧ (Value.slice Ak y2.kids.length nk).ownBlock ≠ some gq) := Lib.hid (by
               have h1 := HSP.out gq (by simp [LN.blocks, Value.ownBlock])
               have h2 := HCN.out gq
               refine ⟨h1.1, fun e => own_ne_ty HL.out.r HP.out (by decide) (by rw [← e]; rfl), h1.2, fun e => ?_, fun e => ?_⟩
               ·have h3 : [(Value.slice Ap y2.props.length np).ownBlock, (Value.slice Ak y2.kids.length nk).ownBlock, some gq].count (some gq) ≤ 1 := h2
                rw [e, List.count_cons_self, List.count_cons, List.count_cons_self] at h3
                omega
               ·have h3 : [(Value.slice Ap y2.props.length np).ownBlock, (Value.slice Ak y2.kids.length nk).ownBlock, some gq].count (some gq) ≤ 1 := h2
                rw [e, List.count_cons, List.count_cons_self, List.count_cons_self] at h3
                omega)
              have HKR : Hid (RowOf 1 EInt wr (fun b => b < wr.heap.size) (some ⟨gk, 0, none⟩) KS) := Lib.hid (by
               obtain ⟨A', c', e, _, _, h3⟩ := (OwnI.below HKO.out HB_v5.out).isRow (F := fun b => b < wr.heap.size) (fun b _ h => h)
               injection e with e1; subst e1; exact h3)
              have HIA := Lib.hid (index_any (some ⟨gk, 0, none⟩) c3 KS rj.target wr _ HKR.out (by rw [HKL.out]; omega))
              rw [HKL.out, HIX.out] at HIA
              have k1 : (jr : Int) < y2.refs.length := by omega
              have k0 : (0 : Int) ≤ jr := by omega
              have m0 := (HSX.out _ HB_v5.out).1
              clear hol hix hrj hor HKR
              go_wp2_with fail
              refine HIA.out.mono ?_
              rintro _ _ ⟨rfl, rfl⟩
              clear HIA
              by_cases hi0 : 0 ≤ ix
              rotate_left 1
              ·have q2 : decide ((0 : Int) ≤ ix) = false := decide_eq_false hi0
               have HL2 : Hid (OwnL wr v5.heap.size ⟨{ y2 with kids := y2.kids.map (fun k => m.next + idxI KS k), refs := partTo (refTo m.next KS) y2.refs (jr + 1) }, .slice Ap y2.props.length np, .slice Ak y2.kids.length nk, .slice (some ⟨gq, 0, none⟩) y2.refs.length nr⟩) := Lib.hid (by
                rw [← partTo_skip hlk (by rw [HRJ.out]; unfold refTo; rw [if_neg (fun h => hi0 (HIN.out.2 h))])]
                exact HL.out)
               go_wp2_with fail
               go_roundg (y2.refs.length - (jr + 1))
               case measure => omega
               case rel => exact ⟨jr + 1, by go_num, rfl, by omega, HB_v5.out, HP.out, HO.out, HG.out, HL2.out⟩
              have q2 : decide ((0 : Int) ≤ ix) = true := decide_eq_true hi0
              go_upto_region 30 with fail
              clear gc fc m0 g6 hglt
              obtain ⟨u9, hu⟩ : ∃ z9 : World, wr.setCell ⟨gq, jr * 2 + 1, none⟩ (.int .i64 (m.next + ix)) = z9 := ⟨_, rfl⟩
              have hkn : ∀ b, b ≠ gq → u9.heap[b]? = wr.heap[b]? := fun b h => by rw [← hu]; exact Below.heap_setCell _ _ _ _ h
              have hb : Below v5.heap.size wr u9 := by rw [← hu]; exact (Below.refl _ _).setCell (p := ⟨gq, jr * 2 + 1, none⟩) hgqB _
              have HL2 : Hid (OwnL u9 v5.heap.size ⟨{ y2 with kids := y2.kids.map (fun k => m.next + idxI KS k), refs := partTo (refTo m.next KS) y2.refs (jr + 1) }, .slice Ap y2.props.length np, .slice Ak y2.kids.length nk, .slice (some ⟨gq, 0, none⟩) y2.refs.length nr⟩) := Lib.hid ⟨own_keep HL.out.p (fun b e => hkn b (fun e2 => HGQ.out.2.2.2.1 (by rw [← e2]; exact e))), own_keep HL.out.k (fun b e => hkn b (fun e2 => HGQ.out.2.2.2.2 (by rw [← e2]; exact e))), by
               have h2 := own_set HOR.out (i := jr * 2 + 1) (by omega) (.int .i64 (m.next + ix))
               rw [hu] at h2
               have h3 : (partTo (refTo m.next KS) y2.refs (jr + 1)).flatMap refCells = ((partTo (refTo m.next KS) y2.refs jr).flatMap refCells).set (jr * 2 + 1) (.int .i64 (m.next + ix)) := by
                rw [← partTo_set hlk]
                refine flat_set refCells_len _ jr 1 (by rw [partTo_len]; exact hlk) (by omega) _ _ ?_
                rw [partTo_at hlk, HRJ.out]
                unfold refTo
                rw [if_pos (HIN.out.1 hi0), HIX.out]; rfl
               show u9.ownsRow _ _ _ _ (partTo (refTo m.next KS) y2.refs (jr + 1)).length ((partTo (refTo m.next KS) y2.refs (jr + 1)).flatMap refCells)
               rw [h3, partTo_len]
               exact h2⟩
              have HG2 : Hid (Blk u9 nb 38 #[.int .i64 (m.next + (i : Int)), .string y2.concept, .int .i64 pa, .string y2.role, .slice Ap y2.props.length np, .slice Ak y2.kids.length nk, .slice (some ⟨gq, 0, none⟩) y2.refs.length nr]) := Lib.hid ((hkn nb (Ne.symm HGQ.out.1)).trans HG.out)
              have HP2 : Hid (Blk u9 hp 24 #[.int .i64 m.next, vo]) := Lib.hid ((hkn hp (Ne.symm HGQ.out.2.1)).trans HP.out)
              have HO2 : Hid (OwnM u9 v5.heap.size vo lo) := Lib.hid (HO.out.aside (fun b h => hkn b (fun e => HGQ.out.2.2.1 (by rw [← e]; exact h))))
              have HB2 := Lib.hid (HB_v5.out.trans hb)
              rw [hu]
              clear hu hb hkn HB_v5 HP HO HG HL
              go_wp2_with fail
              go_roundg (y2.refs.length - (jr + 1))
              case measure => omega
              case rel => exact ⟨jr + 1, by go_num, rfl, by omega, HB2.out, HP2.out, HO2.out, HG2.out, HL2.out⟩
             ·have k9 : ¬ (jr : Int) < y2.refs.length := by omega
              obtain ⟨Av, cv, rfl⟩ := own_shape HO.out.row
              have HL2 : Hid (OwnL wr v5.heap.size (⟨copyN m KS i y2, .slice Ap y2.props.length np, .slice Ak y2.kids.length nk, .slice Ar y2.refs.length nr⟩ : LN)) := Lib.hid (by
               have h := HL.out
               rw [partTo_all (by omega)] at h
               exact ⟨h.p, by have h2 := h.k; show OwnI _ _ _ (y2.kids.map _); exact h2, by have h2 := h.r; show World.ownsRow _ _ _ _ _ (y2.refs.map _).length _; exact h2⟩)
              clear HL hol
              go_upto_region 34 with fail
              clear g6 hglt k9
              have e0 := HG.out.cell 0; have e1 := HG.out.cell 1; have e2 := HG.out.cell 2; have e3 := HG.out.cell 3; have e4 := HG.out.cell 4; have e5 := HG.out.cell 5; have e6 := HG.out.cell 6
              have p0 := HP.out.cell 0; have p1 := HP.out.cell 1
              have hglt := HG.out.lt; have hplt := HP.out.lt
              simp at e0 e1 e2 e3 e4 e5 e6 p0 p1
              obtain ⟨q, hq⟩ : ∃ q, wr.heap.size = q := ⟨_, rfl⟩
              have HQ : Hid (Blk (wr.alloc (.cells #[.int .i64 (m.next + (i : Int)), .string y2.concept, .int .i64 pa, .string y2.role, .slice Ap y2.props.length np, .slice Ak y2.kids.length nk, .slice Ar y2.refs.length nr] 38)) q 38 #[.int .i64 (m.next + (i : Int)), .string y2.concept, .int .i64 pa, .string y2.role, .slice Ap y2.props.length np, .slice Ak y2.kids.length nk, .slice Ar y2.refs.length nr]) := Lib.hid (by rw [← hq]; exact Blk.new _ _ _)
              have hbq : Below wr.heap.size wr (wr.alloc (.cells #[.int .i64 (m.next + (i : Int)), .string y2.concept, .int .i64 pa, .string y2.role, .slice Ap y2.props.length np, .slice Ak y2.kids.length nk, .slice Ar y2.refs.length nr] 38)) := (Below.refl wr.heap.size wr).alloc (Nat.le_refl _) _
              have HOq := Lib.hid (HO.out.below hbq)
              have HPq := Lib.hid (HP.out.below hbq HP.out.lt)
              have HBq := Lib.hid (HB_v5.out.trans (hbq.mono HB_v5.out.size))
              have HLq := Lib.hid (HL2.out.keep (w' := wr.alloc (.cells #[.int .i64 (m.next + (i : Int)), .string y2.concept, .int .i64 pa, .string y2.role, .slice Ap y2.props.length np, .slice Ak y2.kids.length nk, .slice Ar y2.refs.length nr] 38)) fun b h => hbq.block b (HL2.out.lt b h).2)
              have hlol : lo.length ≤ 8192 := by rw [HLO.out]; omega
              have HVQ : Hid (∀ k, (Value.slice Av lo.length cv).ownBlock = some k → k ≠ hp ∧ v5.heap.size ≤ k) := Lib.hid (fun k e => ⟨HO.out.ne_blk HP.out k (by rw [← e]; exact List.mem_cons_self ..), (HO.out.row.lt k e).1⟩)
              have hs5 : v5.heap.size ≤ wr.heap.size := HB_v5.out.size
              have HHQ := Lib.hid hq
              clear hbq HLO
              have HNEW : Hid (∀ ad : Addr, (some ⟨wr.heap.size, 0, none⟩ : Option Addr) = some ad → ∀ j u, (LN.cells (⟨copyN m KS i y2, .slice Ap y2.props.length np, .slice Ak y2.kids.length nk, .slice Ar y2.refs.length nr⟩ : LN))[j]? = some u → (wr.alloc (.cells #[.int .i64 (m.next + (i : Int)), .string y2.concept, .int .i64 pa, .string y2.role, .slice Ap y2.props.length np, .slice Ak y2.kids.length nk, .slice Ar y2.refs.length nr] 38)).cell? (ad.add j) = some u) := Lib.hid (by
               intro ad e j u hu
               cases e
               rw [HHQ.out]
               refine news_cells HQ.out j u ?_
               rw [← HPA.out]
               exact hu)
              go_wp2_with (at_builtin; refine wpList_append_from _ rfl (.tmp 168) (.tmp 170) 22 rfl v5.heap.size 38 Try.underlying22 node_info rfl (by omega) (.slice Av lo.length cv) lo.length (lo.flatMap LN.cells) (by first | rfl | simp [Act.eval]) HOq.out.row (some ⟨wr.heap.size, 0, none⟩) 1 1 (LN.cells (⟨copyN m KS i y2, .slice Ap y2.props.length np, .slice Ak y2.kids.length nk, .slice Ar y2.refs.length nr⟩ : LN)) (by first | rfl | simp [Act.eval]) rfl (by simp) HNEW.out (fun u hu => by simp only [LN.cells, nodeCellsA, copyN, List.mem_cons, List.not_mem_nil, or_false] at hu; rcases hu with rfl | rfl | rfl | rfl | rfl | rfl | rfl <;> rfl) (by unfold maxLen; omega) (by omega) (by simp; omega) ?_)
              intro A6 c6 w6 own6 hg6 hat6
              have HW6 : Hid (OwnM w6 v5.heap.size (.slice A6 (lo.length + 1) c6) (lo ++ [(⟨copyN m KS i y2, .slice Ap y2.props.length np, .slice Ak y2.kids.length nk, .slice Ar y2.refs.length nr⟩ : LN)])) := Lib.hid (HOq.out.push HLq.out HCN.out (fun b h => (HSP.out b h).2) own6 hg6 (by rcases hat6 with e | e; exact .inl e; exact .inr (by rw [e]; simp [HHQ.out])))
              have HB6 := Lib.hid (HBq.out.grown hg6 (by simp; omega) (fun k e => (HVQ.out k e).2))
              have HP6 := Lib.hid (HPq.out.grown hg6 (fun e => (HVQ.out _ e.symm).1 rfl))
              clear HNEW own6 hg6 hat6 e0 e1 e2 e3 e4 e5 e6 p0 p1 hglt hplt
              have p0 := HP6.out.cell 0; have p1 := HP6.out.cell 1
              have z1 := HP6.out.frozen 1
              have hplt := HP6.out.lt
              simp at p0 p1
              have HP7 : Hid (Blk (w6.setCell ⟨hp, 1, none⟩ (.slice A6 (lo.length + 1) c6)) hp 24 #[.int .i64 m.next, .slice A6 (lo.length + 1) c6]) := Lib.hid (by simpa using HP6.out.set_ 1 (.slice A6 (lo.length + 1) c6))
              have HB7 := Lib.hid (HB6.out.setCell (p := ⟨hp, 1, none⟩) hul (.slice A6 (lo.length + 1) c6))
              have HO7 : Hid (OwnM (w6.setCell ⟨hp, 1, none⟩ (.slice A6 (lo.length + 1) c6)) v5.heap.size (.slice A6 (lo.length + 1) c6) (lo ++ [(⟨copyN m KS i y2, .slice Ap y2.props.length np, .slice Ak y2.kids.length nk, .slice Ar y2.refs.length nr⟩ : LN)])) := Lib.hid (HW6.out.aside (fun b h => Below.heap_setCell _ _ _ _ (HW6.out.ne_blk HP6.out b h)))
              have HMP : Hid ((lo ++ [(⟨copyN m KS i y2, .slice Ap y2.props.length np, .slice Ak y2.kids.length nk, .slice Ar y2.refs.length nr⟩ : LN)]).map LN.n = m.nodes ++ copiesTo m KS (i + 1)) := Lib.hid (by
               rw [List.map_append, HLM.out, copiesTo, HNO.out, List.append_assoc]; rfl)
              have hik2 : i + 1 ≤ kl := by omega
              clear HB_v5 HP HO HG HL2 HQ HOq HPq HBq HLq HVQ HP6 HB6 HW6
              go_upto_region 18 with fail
              clear p0 p1 z1 hplt
              obtain ⟨w7, hw7⟩ : ∃ z, w6.setCell ⟨hp, 1, none⟩ (.slice A6 (lo.length + 1) c6) = z := ⟨_, rfl⟩
              rw [hw7] at HP7 HB7 HO7 ⊢
              clear hw7
              go_wp2_with fail
              go_roundg (kl - (i + 1))
              case measure => omega
              case rel => exact ⟨i + 1, _, _, by go_num, rfl, hik2, HB7.out, HP7.out, HO7.out, HMP.out⟩
       ·have k9 : ¬ (i : Int) < kl := by omega
        have hie : i = kl := by omega
        obtain ⟨Av, cv, rfl⟩ := own_shape HO.out.row
        have HMP : Hid (lo.map LN.n = m.nodes ++ copiesTo m (ksL m x.id) (ksL m x.id).length) := Lib.hid (by rw [HLM.out, HX.out.2, HKS.out, HKL.out, hie])
        have hmore : m.next + (ksL m x.id).length ≤ 1048577 := by rw [HX.out.2, HKS.out, HKL.out]; omega
        have hlol : lo.length ≤ 8192 := by rw [HLO.out]; omega
        have HMR := Lib.hid hmore
        clear hie HLM HLO hmore
        have hmlt := HM.out.lt; have hrlt := HR.out.lt; have hplt := HP.out.lt
        replace HM := Lib.hid (HM.out.below HB_v5.out hmlt)
        replace HR := Lib.hid (HR.out.below HB_v5.out hrlt)
        have w2 : IntKind.i64.wrap (m.next + (kl : Int)) = m.next + kl := by rw [IntKind.wrap_i64]; omega
        have m0 := HM.out.cell 0
        have p0 := HP.out.cell 0; have z0 := HP.out.frozen 0
        simp at m0 p0
        go_upto_region 36 with fail
        clear m0 p0 z0 k9
        obtain ⟨x1, hx1⟩ : ∃ z : World, wr.setCell ⟨hp, 0, none⟩ (.int .i64 (m.next + (kl : Int))) = z := ⟨_, rfl⟩
        have hb : Below v5.heap.size wr x1 := by rw [← hx1]; exact (Below.refl _ _).setCell (p := ⟨hp, 0, none⟩) hul _
        have HP2 : Hid (Blk x1 hp 24 #[.int .i64 (m.next + (kl : Int)), .slice Av lo.length cv]) := Lib.hid (by rw [← hx1]; simpa using HP.out.set_ 0 (.int .i64 (m.next + (kl : Int))))
        have HO2 : Hid (OwnM x1 v5.heap.size (.slice Av lo.length cv) lo) := Lib.hid (by rw [← hx1]; exact HO.out.aside (fun b h => Below.heap_setCell _ _ _ _ (HO.out.ne_blk HP.out b h)))
        replace HM := Lib.hid (HM.out.below hb hmlt)
        replace HR := Lib.hid (HR.out.below hb hrlt)
        replace HB_v5 : Hid (Below v5.heap.size v5 x1) := Lib.hid (HB_v5.out.trans hb)
        rw [hx1]
        clear hx1 hb HP HO
        obtain ⟨z, hz, hzi⟩ := copies_first (m := m) (x := x)
        have HHA := Lib.hid (put_any (m.next + (kl : Int)) (.slice Av lo.length cv) lo x1 v5.heap.size (OB v5.heap.size hp) (HO2.out.ob HP2.out) HO2.out HB_v5.out.size (by rw [HMP.out]; exact copies_srt (x := x) HCM.out HMR.out (Nat.le_refl _)) (by rw [HMP.out]; exact copies_kidsR HCM.out HX.out.1 HMR.out HRK.out (Nat.le_refl _)) (by omega) (by rw [HMP.out]; exact copies_closed HCM.out HX.out.1) z (by rw [HMP.out]; exact hz) 0 role a ha (iOf m 0 role a) (by rw [hzi, HMP.out]; exact .inl rfl) (fun _ => rootE_size ((goalE_root _ _ _ _ _).symm.trans HGE.out)))
        rw [hzi, HMP.out] at HHA
        clear hz hzi
        have p0 := HP2.out.cell 0; have p1 := HP2.out.cell 1; have m0 := HM.out.cell 0
        have hplt2 := HP2.out.lt; have hmlt2 := HM.out.lt
        simp at p0 p1 m0
        have q0 : ((0 : Int) != 0) = false := by decide
        go_wp2_with fail
        refine HHA.out.mono ?_
        rintro _ uz ⟨rfl, l2, hown, hlm, hk⟩
        clear p0 p1 m0 hplt2 hmlt2 q0
        have hno1 : ¬ OB v5.heap.size hp w.heap.size := fun h => by have := h.1; omega
        have hno2 : ¬ OB v5.heap.size hp (w.heap.size + 1) := fun h => by have := h.1; omega
        have hno3 : ¬ OB v5.heap.size hp hp := fun h => h.2 rfl
        replace HM := Lib.hid (hk.blk HM.out hno1)
        replace HR := Lib.hid (hk.blk HR.out hno2)
        have HP := Lib.hid (hk.blk HP2.out hno3)
        replace HB_v5 : Hid (Below v5.heap.size v5 uz) := Lib.hid (HB_v5.out.trans (hk.toBelow HB_v5.out.size (fun b h => h.1)))
        have HFIN : Hid (l2.map LN.n = LL) := Lib.hid (by
         rw [hlm, ← HLL.out]
         unfold copyL
         rw [HX.out.2])
        have HO3 := Lib.hid hown
        clear hown hlm hk HHA HP2 HO2 hno1 hno2 hno3
        obtain ⟨ul, hul2⟩ : ∃ z : World, uz.drew = z := ⟨_, rfl⟩
        have hb : Below uz.heap.size uz ul := by rw [← hul2]; exact (Below.refl _ _).drew
        replace HM := Lib.hid (HM.out.below hb HM.out.lt)
        replace HR := Lib.hid (HR.out.below hb HR.out.lt)
        replace HP := Lib.hid (HP.out.below hb HP.out.lt)
        replace HO3 := Lib.hid (HO3.out.below hb)
        replace HB_v5 : Hid (Below v5.heap.size v5 ul) := Lib.hid (HB_v5.out.trans (hb.mono HB_v5.out.size))
        clear hb
        have HSF : Hid (ul.cell? ⟨hp, 0, none⟩ = some (.int .i64 (m.next + (kl : Int))) ∧ ul.cell? ⟨hp, 1, none⟩ = some (.slice Av lo.length cv) ∧ ul.cell? ⟨w.heap.size, 0, none⟩ = some (.int .i64 m.next)) := Lib.hid (by
         have a := HP.out.cell 0; have b := HP.out.cell 1; have c := HM.out.cell 0
         simp at a b c
         exact ⟨a, b, c⟩)
        have HSF2 : Hid (((ul.setCell ⟨w.heap.size + 1, 0, none⟩ (.int .i64 (m.next + (kl : Int)))).setCell ⟨w.heap.size + 1, 1, none⟩ (.slice Av lo.length cv)).cell? ⟨hp, 0, none⟩ = some (.int .i64 (m.next + (kl : Int))) ∧ ((ul.setCell ⟨w.heap.size + 1, 0, none⟩ (.int .i64 (m.next + (kl : Int)))).setCell ⟨w.heap.size + 1, 1, none⟩ (.slice Av lo.length cv)).cell? ⟨hp, 1, none⟩ = some (.slice Av lo.length cv) ∧ ((ul.setCell ⟨w.heap.size + 1, 0, none⟩ (.int .i64 (m.next + (kl : Int)))).setCell ⟨w.heap.size + 1, 1, none⟩ (.slice Av lo.length cv)).cell? ⟨w.heap.size, 0, none⟩ = some (.int .i64 m.next)) := Lib.hid (by
         have hp2 := (HP.out.far (p := ⟨w.heap.size + 1, 0, none⟩) (by show hp ≠ w.heap.size + 1; omega) (.int .i64 (m.next + (kl : Int)))).far (p := ⟨w.heap.size + 1, 1, none⟩) (by show hp ≠ w.heap.size + 1; omega) (.slice Av lo.length cv)
         have hm2 := (HM.out.far (p := ⟨w.heap.size + 1, 0, none⟩) (by show w.heap.size ≠ w.heap.size + 1; omega) (.int .i64 (m.next + (kl : Int)))).far (p := ⟨w.heap.size + 1, 1, none⟩) (by show w.heap.size ≠ w.heap.size + 1; omega) (.slice Av lo.length cv)
         have a := hp2.cell 0; have b := hp2.cell 1; have c := hm2.cell 0
         simp at a b c
         exact ⟨a, b, c⟩)
        have m0 := HM.out.cell 0
        go_upto_region 37 with fail
        clear m0
        have t0 := HR.out.frozen 0; have t1 := HR.out.frozen 1
        have r0 := HR.out.cell 0; have r1 := HR.out.cell 1
        have hrlt2 := HR.out.lt
        simp at r0 r1
        refine wp_region_Y (S := (fun w' : World => w'.cell? ⟨hp, 0, none⟩ = some (.int .i64 (m.next + (kl : Int))) ∧ w'.cell? ⟨hp, 1, none⟩ = some (.slice Av lo.length cv) ∧ w'.cell? ⟨w.heap.size, 0, none⟩ = some (.int .i64 m.next))) 5 (by kernel_rfl) (by rw [hul2]; exact HSF.out) (fun hHeld => ?_)
        rw [hul2] at hHeld ⊢
        clear hul2
        refine wpAnyY_take (i := 0) (v := ?_) rfl (by kernel_rfl) (by kernel_rfl) (by kernel_rfl) (by kernel_rfl) (fun _ _ _ h => h) (Or.inl ⟨by rfl, ?_⟩) (by assumption) ?_
        rotate_left 1
        ·(intro w' hSw; obtain ⟨s0, s1, s2⟩ := hSw; go_simp); try with_reducible rfl
        try simp only [Act.put, List.setIfInBounds_toArray, List.set_cons_zero, List.set_cons_succ, Nat.zero_add]
        refine wpAnyY_take (i := 1) (v := ?_) rfl (by kernel_rfl) (by kernel_rfl) (by kernel_rfl) (by kernel_rfl) (fun _ _ _ h => h) (Or.inl ⟨by rfl, ?_⟩) (by assumption) ?_
        rotate_left 1
        ·(intro w' hSw; obtain ⟨s0, s1, s2⟩ := hSw; go_simp); try with_reducible rfl
        try simp only [Act.put, List.setIfInBounds_toArray, List.set_cons_zero, List.set_cons_succ, Nat.zero_add]
        refine wpAnyY_take (i := 2) (v := ?_) rfl (by kernel_rfl) (by kernel_rfl) (by kernel_rfl) (by kernel_rfl) (fun _ _ _ h => h) (Or.inl ⟨by rfl, ?_⟩) (by assumption) ?_
        rotate_left 1
        ·(intro w' hSw; obtain ⟨s0, s1, s2⟩ := hSw; go_simp); try with_reducible rfl
        try simp only [Act.put, List.setIfInBounds_toArray, List.set_cons_zero, List.set_cons_succ, Nat.zero_add]
        refine wpAnyY_one (i := 3) rfl (by kernel_rfl) (fun K hK => ?_)
        go_simp
        refine hK.out _ _ (fun _ => HSF2.out) ?_
        clear hK K
        try simp only [Act.put, List.setIfInBounds_toArray, List.set_cons_zero, List.set_cons_succ, Nat.zero_add]
        refine wpAnyY_one (i := 4) rfl (by kernel_rfl) (fun K hK => ?_)
        go_simp
        refine hK.out _ _ (fun _ => HSF2.out) ?_
        clear hK K
        try simp only [Act.put, List.setIfInBounds_toArray, List.set_cons_zero, List.set_cons_succ, Nat.zero_add]
        refine wpAnyY_one0 (i := 5) rfl (by kernel_rfl) (by kernel_rfl) (fun K hK => ?_)
        go_simp
        refine hK.out _ _ ?_
        clear hK K
        try simp only [Act.put, List.setIfInBounds_toArray, List.set_cons_zero, List.set_cons_succ, Nat.zero_add]
        refine wpAnyY_done (by kernel_rfl) ?_ _
        clear hHeld
        go_wp2_with fail
        have hyS := (HR.out.set_ 0 (.int .i64 (m.next + (kl : Int)))).set_ 1 (.slice Av lo.length cv)
        have f0 := hyS.cell 0; have f1 := hyS.cell 1
        simp at f0 f1
        have HBW := Lib.hid (((HB_w.out.trans (HB_v5.out.mono HB_w.out.size)).setCell (p := ⟨w.heap.size + 1, 0, none⟩) (by show w.heap.size ≤ w.heap.size + 1; omega) (.int .i64 (m.next + (kl : Int)))).setCell (p := ⟨w.heap.size + 1, 1, none⟩) (by show w.heap.size ≤ w.heap.size + 1; omega) (.slice Av lo.length cv))
        refine bodyPost_ret (v := .tuple #[.agg #[.int .i64 (m.next + (kl : Int)), .slice Av lo.length cv], .int .i64 m.next, .int .i64 0]) (by simp [results, Try.results50, go_sem, f0, f1]) rfl ⟨⟨_, rfl, Or.inr ⟨E.out, .slice Av lo.length cv, by rw [HKS.out, HKL.out], ?_⟩⟩, HBW.out⟩
        rw [← HFIN.out]
        refine (HO3.out.keep (w' := (ul.setCell ⟨w.heap.size + 1, 0, none⟩ (.int .i64 (m.next + (kl : Int)))).setCell ⟨w.heap.size + 1, 1, none⟩ (.slice Av lo.length cv)) (fun b h1 _ => ?_)).isRow (fun b h1 h2 => ⟨by omega, h2⟩)
        exact (Below.heap_setCell _ _ _ _ (by show b ≠ w.heap.size + 1; omega)).trans (Below.heap_setCell _ _ _ _ (by show b ≠ w.heap.size + 1; omega))
 ·have g1 : (p != 0) = true := by simp; exact hp0
  rcases hwc : wordA role with _ | _
  ·have E := Lib.hid (show EE = 2 from HEE.out.symm.trans (copyE_word HCM.out hp0 hwc))
   have HW := Lib.hid hwc
   clear hwc
   go_enter Try.func50, Try.ntmps50
   go_wp2_with fail
   (try rw [HU0.out])
   refine HC2.out.mono ?_
   rintro _ u1 ⟨rfl, hb⟩
   replace HB_w : Hid (Below w.heap.size w u1) := Lib.hid (HB_w.out.trans (hb.mono HB_w.out.size))
   replace HM := Lib.hid (HM.out.below hb HM.out.lt)
   replace HR := Lib.hid (HR.out.below hb HR.out.lt)
   clear hb HU0 HC2
   go_wp2_with fail
   refine (rword_is hns HW.out u1).mono ?_
   rintro _ u2 ⟨rfl, hb⟩
   replace HB_w : Hid (Below w.heap.size w u2) := Lib.hid (HB_w.out.trans (hb.mono HB_w.out.size))
   replace HM := Lib.hid (HM.out.below hb HM.out.lt)
   replace HR := Lib.hid (HR.out.below hb HR.out.lt)
   clear hb
   have t0 := HR.out.frozen 0; have t1 := HR.out.frozen 1
   have r0 := HR.out.cell 0; have r1 := HR.out.cell 1
   have hrlt := HR.out.lt
   simp at r0 r1
   go_wp2_with fail
   have hyS := (HR.out.set_ 0 (.int .i64 0)).set_ 1 (.slice none 0 0)
   have f0 := hyS.cell 0; have f1 := hyS.cell 1
   simp at f0 f1
   have HBW := Lib.hid ((HB_w.out.setCell (p := ⟨w.heap.size + 1, 0, none⟩) (by show w.heap.size ≤ w.heap.size + 1; omega) (.int .i64 0)).setCell (p := ⟨w.heap.size + 1, 1, none⟩) (by show w.heap.size ≤ w.heap.size + 1; omega) (.slice none 0 0))
   exact bodyPost_ret (v := .tuple #[.agg #[.int .i64 0, .slice none 0 0], .int .i64 0, .int .i64 (2)]) (by simp [results, Try.results50, go_sem, f0, f1]) rfl ⟨⟨_, rfl, Or.inl ⟨by rw [E.out]; decide, by rw [E.out]⟩⟩, HBW.out⟩
  ·have HW := Lib.hid hwc
   clear hwc
   have HWD : Hid (p ≠ 0 → wordA role = true) := Lib.hid (fun _ => HW.out)
   rcases atI_cases m.nodes p with ⟨jp, hjp, hjp1, hjp2⟩ | ⟨hjp1, hjp2⟩
   rotate_left 1
   ·have HATP := Lib.hid hjp2
    have HLTP : Hid (atI m.nodes p < 0) := Lib.hid (by rw [hjp2]; omega)
    clear hjp1 hjp2
    go_enter Try.func50, Try.ntmps50
    go_wp2_with fail
    (try rw [HU0.out])
    refine HC2.out.mono ?_
    rintro _ u1 ⟨rfl, hb⟩
    replace HB_w : Hid (Below w.heap.size w u1) := Lib.hid (HB_w.out.trans (hb.mono HB_w.out.size))
    replace HM := Lib.hid (HM.out.below hb HM.out.lt)
    replace HR := Lib.hid (HR.out.below hb HR.out.lt)
    clear hb HU0 HC2
    go_wp2_with fail
    refine (rword_is hns HW.out u1).mono ?_
    rintro _ u2 ⟨rfl, hb⟩
    replace HB_w : Hid (Below w.heap.size w u2) := Lib.hid (HB_w.out.trans (hb.mono HB_w.out.size))
    replace HM := Lib.hid (HM.out.below hb HM.out.lt)
    replace HR := Lib.hid (HR.out.below hb HR.out.lt)
    clear hb
    have HMc0 := HM.out.cell 0
    have HMc1 := HM.out.cell 1
    have HMlt := HM.out.lt
    simp at HMc0 HMc1
    have HPL := Lib.hid (at_any A c m.next id m.nodes u2 F (fun b hb => Nat.lt_of_lt_of_le (hF b hb) HB_w.out.size) (HH.out.keep ENode.stays (Keep.below HB_w.out hF) (fun _ h => h)) HS.out.1 (by rw [HN.out]; omega))
    rw [HAT.out, HN.out] at HPL
    go_wp2_with fail
    refine (HPL.out).mono ?_
    rintro _ u3 ⟨rfl, hb⟩
    replace HB_w : Hid (Below w.heap.size w u3) := Lib.hid (HB_w.out.trans (hb.mono HB_w.out.size))
    replace HM := Lib.hid (HM.out.below hb HM.out.lt)
    replace HR := Lib.hid (HR.out.below hb HR.out.lt)
    clear hb
    clear HPL HMc0 HMc1 HMlt
    have HMc0 := HM.out.cell 0
    have HMc1 := HM.out.cell 1
    have HMlt := HM.out.lt
    simp at HMc0 HMc1
    have HPL := Lib.hid (at_any A c m.next p m.nodes u3 F (fun b hb => Nat.lt_of_lt_of_le (hF b hb) HB_w.out.size) (HH.out.keep ENode.stays (Keep.below HB_w.out hF) (fun _ h => h)) HS.out.1 (by rw [HN.out]; omega))
    rw [HATP.out, HN.out] at HPL
    go_wp2_with fail
    refine (HPL.out).mono ?_
    rintro _ u4 ⟨rfl, hb⟩
    replace HB_w : Hid (Below w.heap.size w u4) := Lib.hid (HB_w.out.trans (hb.mono HB_w.out.size))
    replace HM := Lib.hid (HM.out.below hb HM.out.lt)
    replace HR := Lib.hid (HR.out.below hb HR.out.lt)
    clear hb
    clear HPL HMc0 HMc1 HMlt
    have g5 : decide ((-1 : Int) < 0) = true := by decide
    have E := Lib.hid (show EE = 20 from HEE.out.symm.trans (copyE_node HCM.out HWD.out (.inr ⟨hp0, HLTP.out⟩)))
    have t0 := HR.out.frozen 0; have t1 := HR.out.frozen 1
    have r0 := HR.out.cell 0; have r1 := HR.out.cell 1
    have hrlt := HR.out.lt
    simp at r0 r1
    go_wp2_with fail
    have hyS := (HR.out.set_ 0 (.int .i64 0)).set_ 1 (.slice none 0 0)
    have f0 := hyS.cell 0; have f1 := hyS.cell 1
    simp at f0 f1
    have HBW := Lib.hid ((HB_w.out.setCell (p := ⟨w.heap.size + 1, 0, none⟩) (by show w.heap.size ≤ w.heap.size + 1; omega) (.int .i64 0)).setCell (p := ⟨w.heap.size + 1, 1, none⟩) (by show w.heap.size ≤ w.heap.size + 1; omega) (.slice none 0 0))
    exact bodyPost_ret (v := .tuple #[.agg #[.int .i64 0, .slice none 0 0], .int .i64 0, .int .i64 (20)]) (by simp [results, Try.results50, go_sem, f0, f1]) rfl ⟨⟨_, rfl, Or.inl ⟨by rw [E.out]; decide, by rw [E.out]⟩⟩, HBW.out⟩
   have HATP := Lib.hid hjp2
   have HNN : Hid (¬ (atI m.nodes id < 0 ∨ (p ≠ 0 ∧ atI m.nodes p < 0))) := Lib.hid (by
    rintro (h | h)
    ·exact HLT.out h
    ·have := h.2; rw [hjp2] at this; omega)
   have g5 : decide ((jp : Int) < 0) = false := decide_eq_false (by omega)
   obtain ⟨y, hjye⟩ : ∃ y, m.nodes[jp] = y := ⟨_, rfl⟩
   have HY : Hid (y ∈ m.nodes ∧ y.id = p) := Lib.hid ⟨by rw [← hjye]; exact List.getElem_mem hjp, by rw [← hjye]; exact hjp1⟩
   clear hjp1 hjp2
   go_enter Try.func50, Try.ntmps50
   go_wp2_with fail
   (try rw [HU0.out])
   refine HC2.out.mono ?_
   rintro _ u1 ⟨rfl, hb⟩
   replace HB_w : Hid (Below w.heap.size w u1) := Lib.hid (HB_w.out.trans (hb.mono HB_w.out.size))
   replace HM := Lib.hid (HM.out.below hb HM.out.lt)
   replace HR := Lib.hid (HR.out.below hb HR.out.lt)
   clear hb HU0 HC2
   go_wp2_with fail
   refine (rword_is hns HW.out u1).mono ?_
   rintro _ u2 ⟨rfl, hb⟩
   replace HB_w : Hid (Below w.heap.size w u2) := Lib.hid (HB_w.out.trans (hb.mono HB_w.out.size))
   replace HM := Lib.hid (HM.out.below hb HM.out.lt)
   replace HR := Lib.hid (HR.out.below hb HR.out.lt)
   clear hb
   have HMc0 := HM.out.cell 0
   have HMc1 := HM.out.cell 1
   have HMlt := HM.out.lt
   simp at HMc0 HMc1
   have HPL := Lib.hid (at_any A c m.next id m.nodes u2 F (fun b hb => Nat.lt_of_lt_of_le (hF b hb) HB_w.out.size) (HH.out.keep ENode.stays (Keep.below HB_w.out hF) (fun _ h => h)) HS.out.1 (by rw [HN.out]; omega))
   rw [HAT.out, HN.out] at HPL
   go_wp2_with fail
   refine (HPL.out).mono ?_
   rintro _ u3 ⟨rfl, hb⟩
   replace HB_w : Hid (Below w.heap.size w u3) := Lib.hid (HB_w.out.trans (hb.mono HB_w.out.size))
   replace HM := Lib.hid (HM.out.below hb HM.out.lt)
   replace HR := Lib.hid (HR.out.below hb HR.out.lt)
   clear hb
   clear HPL HMc0 HMc1 HMlt
   have HMc0 := HM.out.cell 0
   have HMc1 := HM.out.cell 1
   have HMlt := HM.out.lt
   simp at HMc0 HMc1
   have HPL := Lib.hid (at_any A c m.next p m.nodes u3 F (fun b hb => Nat.lt_of_lt_of_le (hF b hb) HB_w.out.size) (HH.out.keep ENode.stays (Keep.below HB_w.out hF) (fun _ h => h)) HS.out.1 (by rw [HN.out]; omega))
   rw [HATP.out, HN.out] at HPL
   go_wp2_with fail
   refine (HPL.out).mono ?_
   rintro _ u4 ⟨rfl, hb⟩
   replace HB_w : Hid (Below w.heap.size w u4) := Lib.hid (HB_w.out.trans (hb.mono HB_w.out.size))
   replace HM := Lib.hid (HM.out.below hb HM.out.lt)
   replace HR := Lib.hid (HR.out.below hb HR.out.lt)
   clear hb
   clear HPL HMc0 HMc1 HMlt
   have HHT := Lib.hid (fun (w' : World) (hb : Below w.heap.size w w') => high_any A c m w' F (fun b hb2 => Nat.lt_of_lt_of_le (hF b hb2) hb.size) (HH.out.keep ENode.stays (Keep.below hb hF) (fun _ h => h)) HCM.out HRPP.out HRK.out HK4.out x HX.out.1)
   rw [HN.out, HX.out.2] at HHT
   have hg64 : 1 ≤ heightN m id ∧ heightN m id ≤ 64 := by have := height_le HCM.out HX.out.1; rw [HX.out.2] at this; exact this
   obtain ⟨hg, hhg⟩ : ∃ z, heightN m id = z := ⟨_, rfl⟩
   rw [hhg] at HHT hg64 HEG
   have HHG := Lib.hid hhg
   clear hhg
   have HGE : Hid (goalE m p role a (dN m p) (heightN m id : Nat) = EG) := Lib.hid (by rw [HHG.out]; exact HEG.out)
   obtain ⟨dp, hdp6, hdp⟩ := HCM.out.tree.dep y HY.out.1
   have HGO := Lib.hid (fun (w' : World) (hb : Below w.heap.size w w') => mayI_any A c m w' F (fun b hb2 => Nat.lt_of_lt_of_le (hF b hb2) hb.size) (HH.out.keep ENode.stays (Keep.below hb hF) (fun _ h => h)) HCM.out.tree.ids HCM.out.tree.fam HS.out HRPP.out HRK.out (by rw [HN.out]; omega) jp hjp y hjye (HK4.out y HY.out.1) role a ha dp hdp hdp6 hg (by omega))
   rw [HY.out.2] at hdp
   have HEG2 := HEG.out
   rw [dN_yes HCM.out hdp, ← HY.out.2, goalE_kid HCM.out.tree.fam HY.out.1 (by rw [HY.out.2]; exact hp0)] at HEG2
   rw [HEG2, HN.out, HY.out.2] at HGO
   clear hdp HEG2 hdp6 hjye
   clear HEG
   have HSM : Hid (∀ w', Blk w' w.heap.size 24 #[.int .i64 m.next, .slice A n c] → w'.cell? ⟨w.heap.size, 0, none⟩ = some (.int .i64 m.next) ∧ w'.cell? ⟨w.heap.size, 1, none⟩ = some (.slice A n c)) := Lib.hid (fun w' h => by
    have a := h.cell 0; have b := h.cell 1
    simp at a b
    exact ⟨a, b⟩)
   go_upto_region 7 with fail
   obtain ⟨u, hu⟩ : ∃ u : World, u4.drew = u := ⟨_, rfl⟩
   have hb : Below u4.heap.size u4 u := by rw [← hu]; exact (Below.refl _ _).drew
   replace HB_w : Hid (Below w.heap.size w u) := Lib.hid (HB_w.out.trans (hb.mono HB_w.out.size))
   replace HM := Lib.hid (HM.out.below hb HM.out.lt)
   replace HR := Lib.hid (HR.out.below hb HR.out.lt)
   clear hb
   refine wp_region_Y (S := (fun w' : World => w'.cell? ⟨w.heap.size, 0, none⟩ = some (.int .i64 m.next) ∧ w'.cell? ⟨w.heap.size, 1, none⟩ = some (.slice A n c))) 8 (by kernel_rfl) (by rw [hu]; exact HSM.out _ HM.out) (fun hHeld => ?_)
   rw [hu] at hHeld ⊢
   clear hu
   refine wpAnyY_take (i := 0) (v := ?_) rfl (by kernel_rfl) (by kernel_rfl) (by kernel_rfl) (by kernel_rfl) (fun _ _ _ h => h) (Or.inl ⟨by rfl, ?_⟩) (by assumption) ?_
   rotate_left 1
   ·(intro w' hSw; obtain ⟨s0, s1⟩ := hSw; go_simp); try with_reducible rfl
   try simp only [Act.put, List.setIfInBounds_toArray, List.set_cons_zero, List.set_cons_succ, Nat.zero_add]
   refine wpAnyY_take (i := 1) (v := ?_) rfl (by kernel_rfl) (by kernel_rfl) (by kernel_rfl) (by kernel_rfl) (fun _ _ _ h => h) (Or.inl ⟨by rfl, ?_⟩) (by assumption) ?_
   rotate_left 1
   ·(intro w' hSw; obtain ⟨s0, s1⟩ := hSw; go_simp); try with_reducible rfl
   try simp only [Act.put, List.setIfInBounds_toArray, List.set_cons_zero, List.set_cons_succ, Nat.zero_add]
   refine wpAnyY_take (i := 2) (v := ?_) rfl (by kernel_rfl) (by kernel_rfl) (by kernel_rfl) (by kernel_rfl) (fun _ _ _ h => h) (Or.inl ⟨by rfl, ?_⟩) (by assumption) ?_
   rotate_left 1
   ·(intro w' hSw; obtain ⟨s0, s1⟩ := hSw; go_simp); try with_reducible rfl
   try simp only [Act.put, List.setIfInBounds_toArray, List.set_cons_zero, List.set_cons_succ, Nat.zero_add]
   refine wpAnyY_take (i := 3) (v := ?_) rfl (by kernel_rfl) (by kernel_rfl) (by kernel_rfl) (by kernel_rfl) (fun _ _ _ h => h) (Or.inl ⟨by rfl, ?_⟩) (by assumption) ?_
   rotate_left 1
   ·(intro w' hSw; obtain ⟨s0, s1⟩ := hSw; go_simp); try with_reducible rfl
   try simp only [Act.put, List.setIfInBounds_toArray, List.set_cons_zero, List.set_cons_succ, Nat.zero_add]
   refine wpAnyY_take (i := 4) (v := ?_) rfl (by kernel_rfl) (by kernel_rfl) (by kernel_rfl) (by kernel_rfl) (fun _ _ _ h => h) (Or.inl ⟨by rfl, ?_⟩) (by assumption) ?_
   rotate_left 1
   ·(intro w' hSw; obtain ⟨s0, s1⟩ := hSw; go_simp); try with_reducible rfl
   try simp only [Act.put, List.setIfInBounds_toArray, List.set_cons_zero, List.set_cons_succ, Nat.zero_add]
   refine wpAnyY_take (i := 5) (v := ?_) rfl (by kernel_rfl) (by kernel_rfl) (by kernel_rfl) (by kernel_rfl) (fun _ _ _ h => h) (Or.inl ⟨by rfl, ?_⟩) (by assumption) ?_
   rotate_left 1
   ·(intro w' hSw; obtain ⟨s0, s1⟩ := hSw; go_simp); try with_reducible rfl
   try simp only [Act.put, List.setIfInBounds_toArray, List.set_cons_zero, List.set_cons_succ, Nat.zero_add]
   refine wpAnyY_one (i := 6) rfl (by kernel_rfl) (fun K hK => ?_)
   go_simp
   refine (HHT.out _ HB_w.out).mono ?_
   rintro _ v1 ⟨rfl, hb⟩
   replace HB_w : Hid (Below w.heap.size w v1) := Lib.hid (HB_w.out.trans (hb.mono HB_w.out.size))
   replace HM := Lib.hid (HM.out.below hb HM.out.lt)
   replace HR := Lib.hid (HR.out.below hb HR.out.lt)
   clear hb
   go_simp
   have hHeldv1 := HSM.out _ HM.out
   refine hK.out _ _ (fun _ => HSM.out _ HM.out) ?_
   clear hK K
   try simp only [Act.put, List.setIfInBounds_toArray, List.set_cons_zero, List.set_cons_succ, Nat.zero_add]
   refine wpAnyY_one (i := 7) rfl (by kernel_rfl) (fun K hK => ?_)
   go_simp
   refine (HGO.out _ HB_w.out).mono ?_
   rintro _ v2 ⟨rfl, hb⟩
   replace HB_w : Hid (Below w.heap.size w v2) := Lib.hid (HB_w.out.trans (hb.mono HB_w.out.size))
   replace HM := Lib.hid (HM.out.below hb HM.out.lt)
   replace HR := Lib.hid (HR.out.below hb HR.out.lt)
   clear hb
   go_simp
   have hHeldv2 := HSM.out _ HM.out
   refine hK.out _ _ (fun _ => HSM.out _ HM.out) ?_
   clear hK K
   try simp only [Act.put, List.setIfInBounds_toArray, List.set_cons_zero, List.set_cons_succ, Nat.zero_add]
   refine wpAnyY_one0 (i := 8) rfl (by kernel_rfl) (by kernel_rfl) (fun K hK => ?_)
   go_simp
   refine hK.out _ _ ?_
   clear hK K
   try simp only [Act.put, List.setIfInBounds_toArray, List.set_cons_zero, List.set_cons_succ, Nat.zero_add]
   refine wpAnyY_done (by kernel_rfl) ?_ _
   clear hHeld hHeldv1 hHeldv2
   by_cases hEG0 : EG = 0
   rotate_left 1
   ·have E : Hid (EE = EG) := Lib.hid (by rw [← HEE.out, copyE_goal HCM.out HWD.out HNN.out (by rw [HGE.out]; exact hEG0), HGE.out])
    have hEne : EG ≠ 0 := hEG0
    have hEG1 : (EG != 0) = true := by simp; exact hEG0
    clear hEG0 HGE HHT HGO
    have t0 := HR.out.frozen 0; have t1 := HR.out.frozen 1
    have r0 := HR.out.cell 0; have r1 := HR.out.cell 1
    have hrlt := HR.out.lt
    simp at r0 r1
    go_wp2_with fail
    have hyS := (HR.out.set_ 0 (.int .i64 0)).set_ 1 (.slice none 0 0)
    have f0 := hyS.cell 0; have f1 := hyS.cell 1
    simp at f0 f1
    have HBW := Lib.hid ((HB_w.out.setCell (p := ⟨w.heap.size + 1, 0, none⟩) (by show w.heap.size ≤ w.heap.size + 1; omega) (.int .i64 0)).setCell (p := ⟨w.heap.size + 1, 1, none⟩) (by show w.heap.size ≤ w.heap.size + 1; omega) (.slice none 0 0))
    exact bodyPost_ret (v := .tuple #[.agg #[.int .i64 0, .slice none 0 0], .int .i64 0, .int .i64 (EG)]) (by simp [results, Try.results50, go_sem, f0, f1]) rfl ⟨⟨_, rfl, Or.inl ⟨by rw [E.out]; exact hEne, by rw [E.out]⟩⟩, HBW.out⟩
   subst hEG0
   clear HHT HGO
   have q0 : ((0 : Int) != 0) = false := by decide
   obtain ⟨LB, hLB⟩ : ∃ L, belowL m id = L := ⟨_, rfl⟩
   have HKS : Hid (ksL m id = id :: LB) := Lib.hid (by rw [← hLB]; rfl)
   have hlb : LB.length ≤ 4096 := by have := HCM.out.tree.below_len HX.out.1; rw [HX.out.2, hLB, HN.out] at this; omega
   have HUD := Lib.hid (fun (w' : World) (hb : Below w.heap.size w w') => down_any A c m w' F (fun b hb2 => Nat.lt_of_lt_of_le (hF b hb2) hb.size) (HH.out.keep ENode.stays (Keep.below hb hF) (fun _ h => h)) HCM.out.tree HS.out HK4.out (by rw [HN.out]; omega) x HX.out.1)
   rw [HN.out, HX.out.2, hLB] at HUD
   clear hLB
   have HR3 := HR.out.lt
   have HON : Hid (OwnI v2 (w.heap.size + 2) (.slice none 0 0) []) := Lib.hid (OwnI.nil _ _)
   have HOI1 := Lib.hid (OwnI.alloc HON.out (.cells #[.int .i64 id] 3))
   go_wp2_with (at_builtin; refine wpList_pushI rfl (.tmp 60) (.tmp 62) rfl ?a1 HOI1.out id v2.heap.size ?a2 ?a3 ?a4 ?a5 ?a6)
   case a1 => rfl
   case a2 => rfl
   case a3 => exact Blk.new _ _ _
   case a4 => simp
   case a5 => simp; omega
   case a6 =>
    intro A2 c2 v3 own2 hg2 _
    have hga : Below v2.heap.size v2 (v2.alloc (.cells #[.int .i64 id] 3)) := (Below.refl _ _).alloc (Nat.le_refl _) _
    replace HB_w : Hid (Below w.heap.size w v3) := Lib.hid ((HB_w.out.trans (hga.mono HB_w.out.size)).grown hg2 (by have := HB_w.out.size; have := hga.size; omega) (fun k e => by cases e))
    replace HM := Lib.hid ((HM.out.below hga HM.out.lt).grown hg2 (fun e => by cases e))
    replace HR := Lib.hid ((HR.out.below hga HR.out.lt).grown hg2 (fun e => by cases e))
    have HOA : Hid (OwnI v3 (w.heap.size + 2) (.slice A2 1 c2) [id]) := Lib.hid own2
    clear own2 hg2 hga HOI1 HON HR3
    have HMc0 := HM.out.cell 0
    have HMc1 := HM.out.cell 1
    have HMlt := HM.out.lt
    simp at HMc0 HMc1
    go_wp2_with fail
    refine (HUD.out _ HB_w.out).mono ?_
    rintro _ v4 ⟨vl, rfl, hown, hb⟩
    obtain ⟨Al, cl, rfl⟩ := hown.shape
    have HRW : Hid (RowOf 1 EInt v4 (fun b => b < v4.heap.size) Al LB) := Lib.hid (by
     obtain ⟨A', c', e, _, _, h3⟩ := hown.isRow (F := fun b => b < v4.heap.size) (fun b _ h => h)
     injection e with e1; subst e1; exact h3)
    replace HOA := Lib.hid (OwnI.below HOA.out hb)
    replace HB_w : Hid (Below w.heap.size w v4) := Lib.hid (HB_w.out.trans (hb.mono HB_w.out.size))
    replace HM := Lib.hid (HM.out.below hb HM.out.lt)
    replace HR := Lib.hid (HR.out.below hb HR.out.lt)
    clear hown hb HUD HMc0 HMc1 HMlt
    have HR3 := HR.out.lt
    go_wp2_with (at_builtin; refine wpList_joinI rfl (.tmp 64) (.tmp 67) rfl ?a1 HOA.out Al cl LB _ ?a2 HRW.out ?a4 ?a5 ?a6)
    case a1 => rfl
    case a2 => rfl
    case a4 => simp; omega
    case a5 => omega
    case a6 =>
     intro A3 c3 v5 own3 hg3 _
     replace HB_w : Hid (Below w.heap.size w v5) := Lib.hid (HB_w.out.grown hg3 HB_w.out.size (fun k e => by have := (HOA.out.lt k e).1; omega))
     replace HM := Lib.hid (HM.out.grown hg3 (fun e => by have := (HOA.out.lt _ e.symm).1; omega))
     replace HR := Lib.hid (HR.out.grown hg3 (fun e => by have := (HOA.out.lt _ e.symm).1; omega))
     obtain ⟨KS, hks⟩ : ∃ z, id :: LB = z := ⟨_, rfl⟩
     obtain ⟨kl, hkl⟩ : ∃ z, KS.length = z := ⟨_, rfl⟩
     have HKL := Lib.hid hkl
     have hkl2 : [id].length + LB.length = kl := by rw [← hkl, ← hks]; simp; omega
     have hklb : kl ≤ 4097 ∧ 1 ≤ kl := by rw [← hkl2]; simp; omega
     simp only [List.length_cons, List.length_nil, Nat.zero_add] at hkl2 own3 ⊢
     rw [hkl2] at own3 ⊢
     have HKO : Hid (OwnI v5 (w.heap.size + 2) (.slice A3 kl c3) KS) := Lib.hid (by rw [← hks]; exact own3)
     rw [hks] at HKS
     clear own3 hg3 HOA HRW HR3 hks hkl hkl2
     have w1 : IntKind.i64.wrap ((n : Int) + (kl : Int)) = n + kl := by rw [IntKind.wrap_i64]; omega
     have w2 : IntKind.i64.wrap (m.next + (kl : Int)) = m.next + kl := by rw [IntKind.wrap_i64]; omega
     by_cases hf1 : 4096 < n + kl
     ·have E : Hid (EE = 4) := Lib.hid (by rw [← HEE.out, copyE_full HCM.out HWD.out HNN.out HGE.out (.inl (by rw [HKS.out, HKL.out, HN.out]; exact hf1))])
      have g7 : decide ((4096 : Int) < (n : Int) + (kl : Int)) = true := decide_eq_true (by omega)
      have HMc0 := HM.out.cell 0
      have HMc1 := HM.out.cell 1
      have HMlt := HM.out.lt
      simp at HMc0 HMc1
      have t0 := HR.out.frozen 0; have t1 := HR.out.frozen 1
      have r0 := HR.out.cell 0; have r1 := HR.out.cell 1
      have hrlt := HR.out.lt
      simp at r0 r1
      go_wp2_with fail
      have hyS := (HR.out.set_ 0 (.int .i64 0)).set_ 1 (.slice none 0 0)
      have f0 := hyS.cell 0; have f1 := hyS.cell 1
      simp at f0 f1
      have HBW := Lib.hid ((HB_w.out.setCell (p := ⟨w.heap.size + 1, 0, none⟩) (by show w.heap.size ≤ w.heap.size + 1; omega) (.int .i64 0)).setCell (p := ⟨w.heap.size + 1, 1, none⟩) (by show w.heap.size ≤ w.heap.size + 1; omega) (.slice none 0 0))
      exact bodyPost_ret (v := .tuple #[.agg #[.int .i64 0, .slice none 0 0], .int .i64 0, .int .i64 (4)]) (by simp [results, Try.results50, go_sem, f0, f1]) rfl ⟨⟨_, rfl, Or.inl ⟨by rw [E.out]; decide, by rw [E.out]⟩⟩, HBW.out⟩
     ·have g7 : decide ((4096 : Int) < (n : Int) + (kl : Int)) = false := decide_eq_false (by omega)
      by_cases hf2 : 1048577 < m.next + kl
      ·have E : Hid (EE = 4) := Lib.hid (by rw [← HEE.out, copyE_full HCM.out HWD.out HNN.out HGE.out (.inr (by rw [HKS.out, HKL.out]; exact hf2))])
       have g8 : decide ((1048577 : Int) < m.next + (kl : Int)) = true := decide_eq_true hf2
       have HMc0 := HM.out.cell 0
       have HMc1 := HM.out.cell 1
       have HMlt := HM.out.lt
       simp at HMc0 HMc1
       have t0 := HR.out.frozen 0; have t1 := HR.out.frozen 1
       have r0 := HR.out.cell 0; have r1 := HR.out.cell 1
       have hrlt := HR.out.lt
       simp at r0 r1
       go_wp2_with fail
       have hyS := (HR.out.set_ 0 (.int .i64 0)).set_ 1 (.slice none 0 0)
       have f0 := hyS.cell 0; have f1 := hyS.cell 1
       simp at f0 f1
       have HBW := Lib.hid ((HB_w.out.setCell (p := ⟨w.heap.size + 1, 0, none⟩) (by show w.heap.size ≤ w.heap.size + 1; omega) (.int .i64 0)).setCell (p := ⟨w.heap.size + 1, 1, none⟩) (by show w.heap.size ≤ w.heap.size + 1; omega) (.slice none 0 0))
       exact bodyPost_ret (v := .tuple #[.agg #[.int .i64 0, .slice none 0 0], .int .i64 0, .int .i64 (4)]) (by simp [results, Try.results50, go_sem, f0, f1]) rfl ⟨⟨_, rfl, Or.inl ⟨by rw [E.out]; decide, by rw [E.out]⟩⟩, HBW.out⟩
      ·have E : Hid (EE = 0) := Lib.hid (by rw [← HEE.out, copyE_ok HCM.out HWD.out HNN.out HGE.out (by rw [HKS.out, HKL.out, HN.out]; omega)])
       have g8 : decide ((1048577 : Int) < m.next + (kl : Int)) = false := decide_eq_false hf2
       clear g4 g5 g7 g8
       have HMc0 := HM.out.cell 0
       have HMc1 := HM.out.cell 1
       have HMlt := HM.out.lt
       simp at HMc0 HMc1
       have HTW := Lib.hid (twinR_any A c m v5 F (fun b hb => Nat.lt_of_lt_of_le (hF b hb) HB_w.out.size) (HH.out.keep ENode.stays (Keep.below HB_w.out hF) (fun _ h => h)) HZ'.out (by rw [HN.out]; omega))
       rw [HN.out] at HTW
       have g7 : decide ((4096 : Int) < (n : Int) + (kl : Int)) = false := decide_eq_false (by omega)
       have g8 : decide ((1048577 : Int) < m.next + (kl : Int)) = false := decide_eq_false (by omega)
       go_wp2_with fail
       refine HTW.out.mono ?_
       rintro _ ut ⟨vt, rfl, l, hown, hlm, hb⟩
       clear g7 g8 HTW HMc0 HMc1 HMlt
       have hll : l.length = n := by rw [← HN.out, ← hlm, List.length_map]
       have hul : v5.heap.size ≤ ut.heap.size := hb.size
       have HB_v5 : Hid (Below v5.heap.size v5 ut) := Lib.hid hb
       obtain ⟨At, ct, rfl⟩ := own_shape hown.row
       rw [hll] at hown ⊢
       have HO := Lib.hid hown; have HLM := Lib.hid hlm
       clear hb hown hlm
       obtain ⟨u1, hu⟩ : ∃ u : World, ut.alloc (.cells #[.int .i64 m.next, .slice At n ct] 24) = u := ⟨_, rfl⟩
       have HBU : Below ut.heap.size ut u1 := by rw [← hu]; exact (Below.refl _ _).alloc (Nat.le_refl _) _
       have HP : Hid (Blk u1 ut.heap.size 24 #[.int .i64 m.next, .slice At n ct]) := Lib.hid (by rw [← hu]; exact Blk.new _ _ _)
       have HUE := Lib.hid hu
       clear hu
       replace HB_v5 : Hid (Below v5.heap.size v5 u1) := Lib.hid (HB_v5.out.trans (HBU.mono HB_v5.out.size))
       clear HBU
       replace HO := Lib.hid (HO.out.below (show Below ut.heap.size ut u1 from by rw [← HUE.out]; exact (Below.refl ut.heap.size ut).alloc (Nat.le_refl _) _))
       obtain ⟨hp, hhp⟩ : ∃ z, ut.heap.size = z := ⟨_, rfl⟩
       have HHP : Hid (ut.heap.size = hp) := Lib.hid hhp
       rw [hhp] at HP hul
       clear hhp
       go_upto_region 16 with fail
       rw [HUE.out, HHP.out]
       clear HUE HHP
       go_wp2_with fail
       go_loopg [16] kl (fun q s16 wx => ∃ (i : Nat) (vo : Value) (lo : List LN), s16 = .int .i64 i ∧ q = kl - i ∧ i ≤ kl ∧ Below v5.heap.size v5 wx ∧ Blk wx hp 24 #[.int .i64 m.next, vo] ∧ OwnM wx v5.heap.size vo lo ∧ lo.map LN.n = m.nodes ++ copiesTo m KS i)
       case atStart => exact ⟨0, _, l, rfl, rfl, Nat.zero_le _, HB_v5.out, HP.out, HO.out, by rw [HLM.out]; simp [copiesTo]⟩
       case round =>
        clear HB_v5 HP HO HLM
        obtain ⟨i, vo, lo, rfl, rfl, hik, hb, hpb, hown, hlm⟩ := hrel
        have HB_v5 := Lib.hid hb; have HP := Lib.hid hpb; have HO := Lib.hid hown; have HLM := Lib.hid hlm
        have HLO : Hid (lo.length = n + i) := Lib.hid (by rw [← List.length_map (f := LN.n), hlm, List.length_append, copies_len, HN.out])
        clear hb hpb hown hlm
        by_cases hlt : i < kl
        ·obtain ⟨gk, cap, e, _, _, hgB, _⟩ := own_some HKO.out (by rw [HKL.out]; omega)
         injection e with e1 e3 e2
         clear e3
         subst e1; subst e2
         obtain ⟨k, hk⟩ : ∃ k, KS[i]'(by rw [HKL.out]; exact hlt) = k := ⟨_, rfl⟩
         have HKD : Hid (KS.getD i 0 = k) := Lib.hid (by rw [List.getD_eq_getElem?_getD, List.getElem?_eq_getElem (by rw [HKL.out]; exact hlt), hk]; rfl)
         have HKM : Hid (k ∈ ksL m x.id) := Lib.hid (by rw [HX.out.2, HKS.out, ← hk]; exact List.getElem_mem _)
         obtain ⟨y2, hy2, hy2k⟩ := ks_node HCM.out.tree HX.out.1 HKM.out
         have HY2 := Lib.hid hy2
         obtain ⟨t, ht, hty⟩ := List.getElem_of_mem hy2
         have htn : t < n := by rw [← HN.out]; exact ht
         have HAK : Hid (atI m.nodes k = t) := Lib.hid (by rw [← hy2k, ← hty]; exact atI_some HS.out.1 ht rfl)
         have HNO : Hid (nodeOf m (KS.getD i 0) = y2) := Lib.hid (by rw [HKD.out, ← hy2k]; exact HCM.out.tree.nodeOf hy2)
         obtain ⟨b, off, Sp, cp, Sk, ck, Sr, cr, rfl, hbF, d0, d1, d2, d3, d4, d5, d6, hpp, hkk, hrr⟩ := node_at (HH.out.keep ENode.stays (Keep.below HB_w.out hF) (F' := F) (fun _ h => h)) ht
         rw [hty] at d0 d1 d2 d3 d4 d5 d6 hpp hkk hrr
         have HPP := Lib.hid hpp.2.2; have HKK := Lib.hid hkk.2.2; have HRR := Lib.hid hrr.2.2
         have HF5 : Hid (∀ b, F b → b < v5.heap.size) := Lib.hid (fun b h => Nat.lt_of_lt_of_le (hF b h) HB_w.out.size)
         have HSX : Hid (∀ w', Below v5.heap.size v5 w' → w'.cell? ⟨w.heap.size, 0, none⟩ = some (.int .i64 m.next) ∧ w'.cell? ⟨w.heap.size, 1, none⟩ = some (.slice (some ⟨b, off, none⟩) n c) ∧ w'.cell? ⟨gk, i, none⟩ = some (.int .i64 k) ∧ w'.cell? ⟨b, off + t * 7, none⟩ = some (.int .i64 y2.id) ∧ w'.cell? ⟨b, off + t * 7 + 1, none⟩ = some (.string y2.concept) ∧ w'.cell? ⟨b, off + t * 7 + 2, none⟩ = some (.int .i64 y2.parent) ∧ w'.cell? ⟨b, off + t * 7 + 3, none⟩ = some (.string y2.role) ∧ w'.cell? ⟨b, off + t * 7 + 4, none⟩ = some (.slice Sp y2.props.length cp) ∧ w'.cell? ⟨b, off + t * 7 + 5, none⟩ = some (.slice Sk y2.kids.length ck) ∧ w'.cell? ⟨b, off + t * 7 + 6, none⟩ = some (.slice Sr y2.refs.length cr)) := Lib.hid (fun w' hb => by
          have h1 := HM.out.below hb HM.out.lt
          have m0 := h1.cell 0; have m1 := h1.cell 1
          simp at m0 m1
          have hko := OwnI.below HKO.out hb
          rw [← HKL.out] at hko
          have kk := own_cell hko i (by rw [HKL.out]; omega)
          rw [List.getElem?_map, List.getElem?_eq_getElem (by rw [HKL.out]; exact hlt), hk] at kk
          have hq : b < v5.heap.size := HF5.out _ hbF
          have cc : ∀ q, w'.cell? ⟨b, q, none⟩ = v5.cell? ⟨b, q, none⟩ := fun q => hb.cell (p := ⟨b, q, none⟩) hq
          exact ⟨m0, m1, kk, (cc _).trans d0, (cc _).trans d1, (cc _).trans d2, (cc _).trans d3, (cc _).trans d4, (cc _).trans d5, (cc _).trans d6⟩)
         clear d0 d1 d2 d3 d4 d5 d6 hpp hkk hrr hty hy2k hk hy2 ht
         have hlt' : (i : Int) < kl := by omega
         have i0 : (0 : Int) ≤ i := by omega
         have t1 : (t : Int) < n := by omega
         have t0 : (0 : Int) ≤ t := by omega
         have HPL := Lib.hid (fun (w' : World) (hb : Below v5.heap.size v5 w') => at_any (some ⟨b, off, none⟩) c m.next k m.nodes w' F (fun b hb2 => Nat.lt_of_lt_of_le (HF5.out b hb2) hb.size) (HH.out.keep ENode.stays (Keep.below (HB_w.out.trans (hb.mono HB_w.out.size)) hF) (fun _ h => h)) HS.out.1 (by rw [HN.out]; omega))
         rw [HAK.out, HN.out] at HPL
         have HNL := Lib.hid (fun (w' : World) (hb : Below v5.heap.size v5 w') => rnode_any y2 Sp Sk Sr cp ck cr w' F (fun b hb2 => Nat.lt_of_lt_of_le (HF5.out b hb2) hb.size) (HZ'.out y2 HY2.out) (HPP.out.keep EProp.stays (Keep.below hb HF5.out) (fun _ h => h)) (HKK.out.keep EInt.stays (Keep.below hb HF5.out) (fun _ h => h)) (HRR.out.keep ERef.stays (Keep.below hb HF5.out) (fun _ h => h)))
         go_upto_region 19 with fail
         go_cut [17] (fun s17 wx => ∃ (nb : Nat) (vP vK vR : Value), s17 = .pointer (some ⟨nb, 0, none⟩) ∧ Below v5.heap.size v5 wx ∧ Blk wx hp 24 #[.int .i64 m.next, vo] ∧ OwnM wx v5.heap.size vo lo ∧ Blk wx nb 38 #[.int .i64 y2.id, .string y2.concept, .int .i64 y2.parent, .string y2.role, vP, vK, vR] ∧ OwnL wx v5.heap.size ⟨y2, vP, vK, vR⟩ ∧ (∀ b, (LN.blocks ⟨y2, vP, vK, vR⟩).count (some b) ≤ 1) ∧ (∀ b, some b ∈ LN.blocks ⟨y2, vP, vK, vR⟩ → b ≠ nb ∧ some b ∉ (vo.ownBlock :: allBlocks lo)) ∧ (∀ b, some b ∈ (vo.ownBlock :: allBlocks lo) → b ≠ nb) ∧ v5.heap.size ≤ nb ∧ hp < nb)
         case first =>
          obtain ⟨u, hu⟩ : ∃ u : World, wr.drew = u := ⟨_, rfl⟩
          have hb : Below wr.heap.size wr u := by rw [← hu]; exact (Below.refl _ _).drew
          replace HO := Lib.hid (HO.out.below hb)
          replace HB_v5 : Hid (Below v5.heap.size v5 u) := Lib.hid (HB_v5.out.trans (hb.mono HB_v5.out.size))
          replace HP := Lib.hid (HP.out.below hb HP.out.lt)
          clear hb
          refine wp_region_Y (S := (fun w' : World => w'.cell? ⟨w.heap.size, 0, none⟩ = some (.int .i64 m.next) ∧ w'.cell? ⟨w.heap.size, 1, none⟩ = some (.slice (some ⟨b, off, none⟩) n c) ∧ w'.cell? ⟨gk, i, none⟩ = some (.int .i64 k) ∧ w'.cell? ⟨b, off + t * 7, none⟩ = some (.int .i64 y2.id) ∧ w'.cell? ⟨b, off + t * 7 + 1, none⟩ = some (.string y2.concept) ∧ w'.cell? ⟨b, off + t * 7 + 2, none⟩ = some (.int .i64 y2.parent) ∧ w'.cell? ⟨b, off + t * 7 + 3, none⟩ = some (.string y2.role) ∧ w'.cell? ⟨b, off + t * 7 + 4, none⟩ = some (.slice Sp y2.props.length cp) ∧ w'.cell? ⟨b, off + t * 7 + 5, none⟩ = some (.slice Sk y2.kids.length ck) ∧ w'.cell? ⟨b, off + t * 7 + 6, none⟩ = some (.slice Sr y2.refs.length cr))) 12 (by kernel_rfl) (by rw [hu]; exact HSX.out _ HB_v5.out) (fun hHeld => ?_)
          rw [hu] at hHeld ⊢
          clear hu
          refine wpAnyY_take (i := 0) (v := ?_) rfl (by kernel_rfl) (by kernel_rfl) (by kernel_rfl) (by kernel_rfl) (fun _ _ _ h => h) (Or.inl ⟨by rfl, ?_⟩) (by assumption) ?_
          rotate_left 1
          ·(intro w' hSw; obtain ⟨s0, s1, s2, s3, s4, s5, s6, s7, s8, s9⟩ := hSw; go_simp); try with_reducible rfl
          try simp only [Act.put, List.setIfInBounds_toArray, List.set_cons_zero, List.set_cons_succ, Nat.zero_add]
          refine wpAnyY_take (i := 1) (v := ?_) rfl (by kernel_rfl) (by kernel_rfl) (by kernel_rfl) (by kernel_rfl) (fun _ _ _ h => h) (Or.inl ⟨by rfl, ?_⟩) (by assumption) ?_
          rotate_left 1
          ·(intro w' hSw; obtain ⟨s0, s1, s2, s3, s4, s5, s6, s7, s8, s9⟩ := hSw; go_simp); try with_reducible rfl
          try simp only [Act.put, List.setIfInBounds_toArray, List.set_cons_zero, List.set_cons_succ, Nat.zero_add]
          refine wpAnyY_take (i := 2) (v := ?_) rfl (by kernel_rfl) (by kernel_rfl) (by kernel_rfl) (by kernel_rfl) (fun _ _ _ h => h) (Or.inl ⟨by rfl, ?_⟩) (by assumption) ?_
          rotate_left 1
          ·(intro w' hSw; obtain ⟨s0, s1, s2, s3, s4, s5, s6, s7, s8, s9⟩ := hSw; go_simp); try with_reducible rfl
          try simp only [Act.put, List.setIfInBounds_toArray, List.set_cons_zero, List.set_cons_succ, Nat.zero_add]
          refine wpAnyY_take (i := 3) (v := ?_) rfl (by kernel_rfl) (by kernel_rfl) (by kernel_rfl) (by kernel_rfl) (fun _ _ _ h => h) (Or.inl ⟨by rfl, ?_⟩) (by assumption) ?_
          rotate_left 1
          ·(intro w' hSw; obtain ⟨s0, s1, s2, s3, s4, s5, s6, s7, s8, s9⟩ := hSw; go_simp); try with_reducible rfl
          try simp only [Act.put, List.setIfInBounds_toArray, List.set_cons_zero, List.set_cons_succ, Nat.zero_add]
          refine wpAnyY_take (i := 4) (v := ?_) rfl (by kernel_rfl) (by kernel_rfl) (by kernel_rfl) (by kernel_rfl) (fun _ _ _ h => h) (Or.inl ⟨by rfl, ?_⟩) (by assumption) ?_
          rotate_left 1
          ·(intro w' hSw; obtain ⟨s0, s1, s2, s3, s4, s5, s6, s7, s8, s9⟩ := hSw; go_simp); try with_reducible rfl
          try simp only [Act.put, List.setIfInBounds_toArray, List.set_cons_zero, List.set_cons_succ, Nat.zero_add]
          refine wpAnyY_take (i := 5) (v := ?_) rfl (by kernel_rfl) (by kernel_rfl) (by kernel_rfl) (by kernel_rfl) (fun _ _ _ h => h) (Or.inl ⟨by rfl, ?_⟩) (by assumption) ?_
          rotate_left 1
          ·(intro w' hSw; obtain ⟨s0, s1, s2, s3, s4, s5, s6, s7, s8, s9⟩ := hSw; go_simp); try with_reducible rfl
          try simp only [Act.put, List.setIfInBounds_toArray, List.set_cons_zero, List.set_cons_succ, Nat.zero_add]
          refine wpAnyY_take (i := 6) (v := ?_) rfl (by kernel_rfl) (by kernel_rfl) (by kernel_rfl) (by kernel_rfl) (fun _ _ _ h => h) (Or.inl ⟨by rfl, ?_⟩) (by assumption) ?_
          rotate_left 1
          ·(intro w' hSw; obtain ⟨s0, s1, s2, s3, s4, s5, s6, s7, s8, s9⟩ := hSw; go_simp); try with_reducible rfl
          try simp only [Act.put, List.setIfInBounds_toArray, List.set_cons_zero, List.set_cons_succ, Nat.zero_add]
          refine wpAnyY_two (i := 7) (j := 11) rfl rfl (by kernel_rfl) (fun K hK => ?_) (fun K hK => ?_)
          ·go_simp
           refine (HPL.out _ HB_v5.out).mono ?_
           rintro _ x1 ⟨rfl, hb⟩
           replace HB_v5 : Hid (Below v5.heap.size v5 x1) := Lib.hid (HB_v5.out.trans (hb.mono HB_v5.out.size))
           replace HP := Lib.hid (HP.out.below hb HP.out.lt)
           replace HO := Lib.hid (HO.out.below hb)
           clear hb
           go_simp
           have hHeldx1 := HSX.out _ HB_v5.out
           refine hK.out _ _ (fun _ => HSX.out _ HB_v5.out) ?_
           clear hK K
           try simp only [Act.put, List.setIfInBounds_toArray, List.set_cons_zero, List.set_cons_succ, Nat.zero_add]
           refine wpAnyY_take (i := 8) (v := ?_) rfl (by kernel_rfl) (by kernel_rfl) (by kernel_rfl) (by kernel_rfl) (fun _ _ _ h => h) (Or.inl ⟨by rfl, ?_⟩) (by assumption) ?_
           rotate_left 1
           ·(intro w' hSw; obtain ⟨s0, s1, s2, s3, s4, s5, s6, s7, s8, s9⟩ := hSw; go_simp); try with_reducible rfl
           try simp only [Act.put, List.setIfInBounds_toArray, List.set_cons_zero, List.set_cons_succ, Nat.zero_add]
           refine wpAnyY_take (i := 9) (v := ?_) rfl (by kernel_rfl) (by kernel_rfl) (by kernel_rfl) (by kernel_rfl) (fun _ _ _ h => h) (Or.inl ⟨by rfl, ?_⟩) (by assumption) ?_
           rotate_left 1
           ·(intro w' hSw; obtain ⟨s0, s1, s2, s3, s4, s5, s6, s7, s8, s9⟩ := hSw; go_simp); try with_reducible rfl
           try simp only [Act.put, List.setIfInBounds_toArray, List.set_cons_zero, List.set_cons_succ, Nat.zero_add]
           refine wpAnyY_two (i := 10) (j := 11) rfl rfl (by kernel_rfl) (fun K hK => ?_) (fun K hK => ?_)
           ·go_simp
            refine (HNL.out _ HB_v5.out).mono ?_
            rintro _ x2 ⟨vP, vK, vR, rfl, hol, hcn, hb⟩
            have HSP : Hid (∀ b, some b ∈ LN.blocks ⟨y2, vP, vK, vR⟩ →  some b ∉ (vo.ownBlock :: allBlocks lo)) := Lib.hid (fun b h1 => fun h2 => by have := (hol.lt b h1).1; have := (HO.out.lt b h2).2; omega)
            have HL0 : Hid (OwnL x2 v5.heap.size ⟨y2, vP, vK, vR⟩) := Lib.hid (hol.weaken HB_v5.out.size)
            have HCN := Lib.hid hcn
            replace HB_v5 : Hid (Below v5.heap.size v5 x2) := Lib.hid (HB_v5.out.trans (hb.mono HB_v5.out.size))
            replace HP := Lib.hid (HP.out.below hb HP.out.lt)
            replace HO := Lib.hid (HO.out.below hb)
            clear hol hcn hb
            have HL := HL0
            clear HL0
            go_simp
            refine hK.out _ _ (fun _ => HSX.out _ HB_v5.out) ?_
            clear hK K
            try simp only [Act.put, List.setIfInBounds_toArray, List.set_cons_zero, List.set_cons_succ, Nat.zero_add]
            refine wpAnyY_one (i := 11) rfl (by kernel_rfl) (fun K hK => ?_)
            go_simp
            obtain ⟨x3, hu⟩ : ∃ z9 : World, x2.alloc (.cells #[.int .i64 0, .string ⟨#[]⟩, .int .i64 0, .string ⟨#[]⟩, .slice none 0 0, .slice none 0 0, .slice none 0 0] 38) = z9 := ⟨_, rfl⟩
            have hb : Below x2.heap.size x2 x3 := by rw [← hu]; exact (Below.refl _ _).alloc (Nat.le_refl _) _
            have HG0 : Hid (Blk x3 x2.heap.size 38 #[.int .i64 0, .string ⟨#[]⟩, .int .i64 0, .string ⟨#[]⟩, .slice none 0 0, .slice none 0 0, .slice none 0 0]) := Lib.hid (by rw [← hu]; exact Blk.new _ _ _)
            rw [hu]
            clear hu
            have HGV : Hid (v5.heap.size ≤ x2.heap.size ∧ hp < x2.heap.size ∧ ∀ b, some b ∈ (vo.ownBlock :: allBlocks lo) → b ≠ x2.heap.size) := Lib.hid ⟨HB_v5.out.size, HP.out.lt, fun b h => by have := (HO.out.lt b h).2; omega⟩
            have HSP2 : Hid (∀ b, some b ∈ LN.blocks ⟨y2, vP, vK, vR⟩ → b ≠ x2.heap.size ∧ some b ∉ (vo.ownBlock :: allBlocks lo)) := Lib.hid (fun b h1 => ⟨by have := (HL.out.lt b h1).2; omega, HSP.out b h1⟩)
            clear HSP
            have HSP := HSP2
            clear HSP2
            replace HB_v5 : Hid (Below v5.heap.size v5 x3) := Lib.hid (HB_v5.out.trans (hb.mono HB_v5.out.size))
            replace HP := Lib.hid (HP.out.below hb HP.out.lt)
            replace HO := Lib.hid (HO.out.below hb)
            replace HL := Lib.hid (HL.out.keep (w' := x3) fun b hb2 => hb.block b (HL.out.lt b hb2).2)
            clear hb
            have HG := HG0
            clear HG0
            have hHeldx3 := HSX.out _ HB_v5.out
            refine hK.out _ _ (fun _ => HSX.out _ HB_v5.out) ?_
            clear hK K
            try simp only [Act.put, List.setIfInBounds_toArray, List.set_cons_zero, List.set_cons_succ, Nat.zero_add]
            refine wpAnyY_one0 (i := 12) rfl (by kernel_rfl) (by kernel_rfl) (fun K hK => ?_)
            have t0 := HG.out.frozen 0; have r0 := HG.out.cell 0; have t1 := HG.out.frozen 1; have r1 := HG.out.cell 1; have t2 := HG.out.frozen 2; have r2 := HG.out.cell 2; have t3 := HG.out.frozen 3; have r3 := HG.out.cell 3; have t4 := HG.out.frozen 4; have r4 := HG.out.cell 4; have t5 := HG.out.frozen 5; have r5 := HG.out.cell 5; have t6 := HG.out.frozen 6; have r6 := HG.out.cell 6
            have hglt := HG.out.lt
            simp at r0 r1 r2 r3 r4 r5 r6
            have HSH : Hid (ShapeL ⟨y2, vP, vK, vR⟩) := Lib.hid HL.out.shape
            obtain ⟨Ap, np, cpp, Ak, nk, ckk, Ar, nr, crr, e1, e2, e3⟩ := HSH.out
            simp only at e1 e2 e3
            subst e1; subst e2; subst e3
            go_simp
            refine hK.out _ _ ?_
            clear t0 r0 t1 r1 t2 r2 t3 r3 t4 r4 t5 r5 t6 r6 hglt
            clear hK K
            try simp only [Act.put, List.setIfInBounds_toArray, List.set_cons_zero, List.set_cons_succ, Nat.zero_add]
            refine wpAnyY_done (by kernel_rfl) ?_ _
            go_wp2_with fail
            go_meet
            case rel => exact ⟨x2.heap.size, _, _, _, rfl, below_set7 HB_v5.out HGV.out.1, HP.out.far7 (by have := HGV.out.2.1; omega), HO.out.aside (fun b hb => heap_set7 (HGV.out.2.2 b hb)), HG.out.store7, HL.out.keep (fun b hb => heap_set7 (HSP.out b hb).1), HCN.out, HSP.out, HGV.out.2.2, HGV.out.1, HGV.out.2.1⟩
           ·go_simp
            obtain ⟨x5, hu⟩ : ∃ z9 : World, x1.alloc (.cells #[.int .i64 0, .string ⟨#[]⟩, .int .i64 0, .string ⟨#[]⟩, .slice none 0 0, .slice none 0 0, .slice none 0 0] 38) = z9 := ⟨_, rfl⟩
            have hb : Below x1.heap.size x1 x5 := by rw [← hu]; exact (Below.refl _ _).alloc (Nat.le_refl _) _
            have HG0 : Hid (Blk x5 x1.heap.size 38 #[.int .i64 0, .string ⟨#[]⟩, .int .i64 0, .string ⟨#[]⟩, .slice none 0 0, .slice none 0 0, .slice none 0 0]) := Lib.hid (by rw [← hu]; exact Blk.new _ _ _)
            rw [hu]
            clear hu
            have HGV : Hid (v5.heap.size ≤ x1.heap.size ∧ hp < x1.heap.size ∧ ∀ b, some b ∈ (vo.ownBlock :: allBlocks lo) → b ≠ x1.heap.size) := Lib.hid ⟨HB_v5.out.size, HP.out.lt, fun b h => by have := (HO.out.lt b h).2; omega⟩
            replace HB_v5 : Hid (Below v5.heap.size v5 x5) := Lib.hid (HB_v5.out.trans (hb.mono HB_v5.out.size))
            replace HP := Lib.hid (HP.out.below hb HP.out.lt)
            replace HO := Lib.hid (HO.out.below hb)
            clear hb
            have HG := HG0
            clear HG0
            have hHeldx5 := HSX.out _ HB_v5.out
            refine hK.out _ _ (fun _ => HSX.out _ HB_v5.out) ?_
            clear hK K
            try simp only [Act.put, List.setIfInBounds_toArray, List.set_cons_zero, List.set_cons_succ, Nat.zero_add]
            refine wpAnyY_one (i := 10) rfl (by kernel_rfl) (fun K hK => ?_)
            go_simp
            refine (HNL.out _ HB_v5.out).mono ?_
            rintro _ x6 ⟨vP, vK, vR, rfl, hol, hcn, hb⟩
            have HSP : Hid (∀ b, some b ∈ LN.blocks ⟨y2, vP, vK, vR⟩ → b ≠ x1.heap.size ∧ some b ∉ (vo.ownBlock :: allBlocks lo)) := Lib.hid (fun b h1 => ⟨by have := (hol.lt b h1).1; have := HG.out.lt; omega, fun h2 => by have := (hol.lt b h1).1; have := (HO.out.lt b h2).2; omega⟩)
            have HL0 : Hid (OwnL x6 v5.heap.size ⟨y2, vP, vK, vR⟩) := Lib.hid (hol.weaken HB_v5.out.size)
            have HCN := Lib.hid hcn
            replace HB_v5 : Hid (Below v5.heap.size v5 x6) := Lib.hid (HB_v5.out.trans (hb.mono HB_v5.out.size))
            replace HP := Lib.hid (HP.out.below hb HP.out.lt)
            replace HO := Lib.hid (HO.out.below hb)
            replace HG := Lib.hid (HG.out.below hb HG.out.lt)
            clear hol hcn hb
            have HL := HL0
            clear HL0
            go_simp
            refine hK.out _ _ (fun _ => HSX.out _ HB_v5.out) ?_
            clear hK K
            try simp only [Act.put, List.setIfInBounds_toArray, List.set_cons_zero, List.set_cons_succ, Nat.zero_add]
            refine wpAnyY_one0 (i := 12) rfl (by kernel_rfl) (by kernel_rfl) (fun K hK => ?_)
            have t0 := HG.out.frozen 0; have r0 := HG.out.cell 0; have t1 := HG.out.frozen 1; have r1 := HG.out.cell 1; have t2 := HG.out.frozen 2; have r2 := HG.out.cell 2; have t3 := HG.out.frozen 3; have r3 := HG.out.cell 3; have t4 := HG.out.frozen 4; have r4 := HG.out.cell 4; have t5 := HG.out.frozen 5; have r5 := HG.out.cell 5; have t6 := HG.out.frozen 6; have r6 := HG.out.cell 6
            have hglt := HG.out.lt
            simp at r0 r1 r2 r3 r4 r5 r6
            have HSH : Hid (ShapeL ⟨y2, vP, vK, vR⟩) := Lib.hid HL.out.shape
            obtain ⟨Ap, np, cpp, Ak, nk, ckk, Ar, nr, crr, e1, e2, e3⟩ := HSH.out
            simp only at e1 e2 e3
            subst e1; subst e2; subst e3
            go_simp
            refine hK.out _ _ ?_
            clear t0 r0 t1 r1 t2 r2 t3 r3 t4 r4 t5 r5 t6 r6 hglt
            clear hK K
            try simp only [Act.put, List.setIfInBounds_toArray, List.set_cons_zero, List.set_cons_succ, Nat.zero_add]
            refine wpAnyY_done (by kernel_rfl) ?_ _
            go_wp2_with fail
            go_meet
            case rel => exact ⟨x1.heap.size, _, _, _, rfl, below_set7 HB_v5.out HGV.out.1, HP.out.far7 (by have := HGV.out.2.1; omega), HO.out.aside (fun b hb => heap_set7 (HGV.out.2.2 b hb)), HG.out.store7, HL.out.keep (fun b hb => heap_set7 (HSP.out b hb).1), HCN.out, HSP.out, HGV.out.2.2, HGV.out.1, HGV.out.2.1⟩
          ·go_simp
           obtain ⟨x8, hu⟩ : ∃ z9 : World, u.alloc (.cells #[.int .i64 0, .string ⟨#[]⟩, .int .i64 0, .string ⟨#[]⟩, .slice none 0 0, .slice none 0 0, .slice none 0 0] 38) = z9 := ⟨_, rfl⟩
           have hb : Below u.heap.size u x8 := by rw [← hu]; exact (Below.refl _ _).alloc (Nat.le_refl _) _
           have HG0 : Hid (Blk x8 u.heap.size 38 #[.int .i64 0, .string ⟨#[]⟩, .int .i64 0, .string ⟨#[]⟩, .slice none 0 0, .slice none 0 0, .slice none 0 0]) := Lib.hid (by rw [← hu]; exact Blk.new _ _ _)
           rw [hu]
           clear hu
           have HGV : Hid (v5.heap.size ≤ u.heap.size ∧ hp < u.heap.size ∧ ∀ b, some b ∈ (vo.ownBlock :: allBlocks lo) → b ≠ u.heap.size) := Lib.hid ⟨HB_v5.out.size, HP.out.lt, fun b h => by have := (HO.out.lt b h).2; omega⟩
           replace HB_v5 : Hid (Below v5.heap.size v5 x8) := Lib.hid (HB_v5.out.trans (hb.mono HB_v5.out.size))
           replace HP := Lib.hid (HP.out.below hb HP.out.lt)
           replace HO := Lib.hid (HO.out.below hb)
           clear hb
           have HG := HG0
           clear HG0
           have hHeldx8 := HSX.out _ HB_v5.out
           refine hK.out _ _ (fun _ => HSX.out _ HB_v5.out) ?_
           clear hK K
           try simp only [Act.put, List.setIfInBounds_toArray, List.set_cons_zero, List.set_cons_succ, Nat.zero_add]
           refine wpAnyY_one (i := 7) rfl (by kernel_rfl) (fun K hK => ?_)
           go_simp
           refine (HPL.out _ HB_v5.out).mono ?_
           rintro _ x9 ⟨rfl, hb⟩
           replace HB_v5 : Hid (Below v5.heap.size v5 x9) := Lib.hid (HB_v5.out.trans (hb.mono HB_v5.out.size))
           replace HP := Lib.hid (HP.out.below hb HP.out.lt)
           replace HO := Lib.hid (HO.out.below hb)
           replace HG := Lib.hid (HG.out.below hb HG.out.lt)
           clear hb
           go_simp
           have hHeldx9 := HSX.out _ HB_v5.out
           refine hK.out _ _ (fun _ => HSX.out _ HB_v5.out) ?_
           clear hK K
           try simp only [Act.put, List.setIfInBounds_toArray, List.set_cons_zero, List.set_cons_succ, Nat.zero_add]
           refine wpAnyY_take (i := 8) (v := ?_) rfl (by kernel_rfl) (by kernel_rfl) (by kernel_rfl) (by kernel_rfl) (fun _ _ _ h => h) (Or.inl ⟨by rfl, ?_⟩) (by assumption) ?_
           rotate_left 1
           ·(intro w' hSw; obtain ⟨s0, s1, s2, s3, s4, s5, s6, s7, s8, s9⟩ := hSw; go_simp); try with_reducible rfl
           try simp only [Act.put, List.setIfInBounds_toArray, List.set_cons_zero, List.set_cons_succ, Nat.zero_add]
           refine wpAnyY_take (i := 9) (v := ?_) rfl (by kernel_rfl) (by kernel_rfl) (by kernel_rfl) (by kernel_rfl) (fun _ _ _ h => h) (Or.inl ⟨by rfl, ?_⟩) (by assumption) ?_
           rotate_left 1
           ·(intro w' hSw; obtain ⟨s0, s1, s2, s3, s4, s5, s6, s7, s8, s9⟩ := hSw; go_simp); try with_reducible rfl
           try simp only [Act.put, List.setIfInBounds_toArray, List.set_cons_zero, List.set_cons_succ, Nat.zero_add]
           refine wpAnyY_one (i := 10) rfl (by kernel_rfl) (fun K hK => ?_)
           go_simp
           refine (HNL.out _ HB_v5.out).mono ?_
           rintro _ x10 ⟨vP, vK, vR, rfl, hol, hcn, hb⟩
           have HSP : Hid (∀ b, some b ∈ LN.blocks ⟨y2, vP, vK, vR⟩ → b ≠ u.heap.size ∧ some b ∉ (vo.ownBlock :: allBlocks lo)) := Lib.hid (fun b h1 => ⟨by have := (hol.lt b h1).1; have := HG.out.lt; omega, fun h2 => by have := (hol.lt b h1).1; have := (HO.out.lt b h2).2; omega⟩)
           have HL0 : Hid (OwnL x10 v5.heap.size ⟨y2, vP, vK, vR⟩) := Lib.hid (hol.weaken HB_v5.out.size)
           have HCN := Lib.hid hcn
           replace HB_v5 : Hid (Below v5.heap.size v5 x10) := Lib.hid (HB_v5.out.trans (hb.mono HB_v5.out.size))
           replace HP := Lib.hid (HP.out.below hb HP.out.lt)
           replace HO := Lib.hid (HO.out.below hb)
           replace HG := Lib.hid (HG.out.below hb HG.out.lt)
           clear hol hcn hb
           have HL := HL0
           clear HL0
           go_simp
           refine hK.out _ _ (fun _ => HSX.out _ HB_v5.out) ?_
           clear hK K
           try simp only [Act.put, List.setIfInBounds_toArray, List.set_cons_zero, List.set_cons_succ, Nat.zero_add]
           refine wpAnyY_one0 (i := 12) rfl (by kernel_rfl) (by kernel_rfl) (fun K hK => ?_)
           have t0 := HG.out.frozen 0; have r0 := HG.out.cell 0; have t1 := HG.out.frozen 1; have r1 := HG.out.cell 1; have t2 := HG.out.frozen 2; have r2 := HG.out.cell 2; have t3 := HG.out.frozen 3; have r3 := HG.out.cell 3; have t4 := HG.out.frozen 4; have r4 := HG.out.cell 4; have t5 := HG.out.frozen 5; have r5 := HG.out.cell 5; have t6 := HG.out.frozen 6; have r6 := HG.out.cell 6
           have hglt := HG.out.lt
           simp at r0 r1 r2 r3 r4 r5 r6
           have HSH : Hid (ShapeL ⟨y2, vP, vK, vR⟩) := Lib.hid HL.out.shape
           obtain ⟨Ap, np, cpp, Ak, nk, ckk, Ar, nr, crr, e1, e2, e3⟩ := HSH.out
           simp only at e1 e2 e3
           subst e1; subst e2; subst e3
           go_simp
           refine hK.out _ _ ?_
           clear t0 r0 t1 r1 t2 r2 t3 r3 t4 r4 t5 r5 t6 r6 hglt
           clear hK K
           try simp only [Act.put, List.setIfInBounds_toArray, List.set_cons_zero, List.set_cons_succ, Nat.zero_add]
           refine wpAnyY_done (by kernel_rfl) ?_ _
           go_wp2_with fail
           go_meet
           case rel => exact ⟨u.heap.size, _, _, _, rfl, below_set7 HB_v5.out HGV.out.1, HP.out.far7 (by have := HGV.out.2.1; omega), HO.out.aside (fun b hb => heap_set7 (HGV.out.2.2 b hb)), HG.out.store7, HL.out.keep (fun b hb => heap_set7 (HSP.out b hb).1), HCN.out, HSP.out, HGV.out.2.2, HGV.out.1, HGV.out.2.1⟩
         case rest =>
          obtain ⟨nb, vP, vK, vR, rfl, hb, hpb, hown, hnb, hol, hcn, hsp, hvo, hnbv, hpn⟩ := hcut
          clear HB_v5 HP HO HPL HNL
          obtain ⟨wq, rfl⟩ : ∃ v : World, v = wc := ⟨_, rfl⟩
          obtain ⟨Ap, np, rfl⟩ : ∃ A c, vP = .slice A y2.props.length c := own_shape hol.p
          obtain ⟨Ak, nk, rfl⟩ : ∃ A c, vK = .slice A y2.kids.length c := hol.k.shape
          obtain ⟨Ar, nr, rfl⟩ : ∃ A c, vR = .slice A y2.refs.length c := own_shape hol.r
          have HB_v5 := Lib.hid hb; have HP := Lib.hid hpb; have HO := Lib.hid hown; have HG := Lib.hid hnb; have HL := Lib.hid hol; have HCN := Lib.hid hcn; have HSP := Lib.hid hsp; have HVO := Lib.hid hvo
          clear hb hpb hown hnb hol hcn hsp hvo
          have wn : IntKind.i64.wrap (m.next + (i : Int)) = m.next + i := by rw [IntKind.wrap_i64]; omega
          have m0 := (HSX.out _ HB_v5.out).1
          have t0 := HG.out.frozen 0; have r0 := HG.out.cell 0
          have hglt := HG.out.lt
          simp at r0
          go_upto_region 21 with fail
          clear m0 t0 r0 hglt
          obtain ⟨u1, hu⟩ : ∃ z9 : World, wq.setCell ⟨nb, 0, none⟩ (.int .i64 (m.next + (i : Int))) = z9 := ⟨_, rfl⟩
          have HG2 : Hid (Blk u1 nb 38 #[.int .i64 (m.next + (i : Int)), .string y2.concept, .int .i64 y2.parent, .string y2.role, .slice Ap y2.props.length np, .slice Ak y2.kids.length nk, .slice Ar y2.refs.length nr]) := Lib.hid (by rw [← hu]; exact HG.out.set_ 0 (.int .i64 (m.next + (i : Int))))
          have hb2 : Below nb wq u1 := by rw [← hu]; exact (Below.refl _ _).setCell (p := ⟨nb, 0, none⟩) (Nat.le_refl _) _
          have hb : Below v5.heap.size wq u1 := hb2.mono hnbv
          have hkn : ∀ b, b ≠ nb → u1.heap[b]? = wq.heap[b]? := fun b h => by rw [← hu]; exact Below.heap_setCell _ _ _ _ h
          replace HB_v5 : Hid (Below v5.heap.size v5 u1) := Lib.hid (HB_v5.out.trans hb)
          replace HP := Lib.hid (HP.out.below hb2 (by omega))
          replace HO : Hid (OwnM u1 v5.heap.size vo lo) := Lib.hid (HO.out.aside (fun b h => hkn b (HVO.out b h)))
          replace HL : Hid (OwnL u1 v5.heap.size ⟨y2, .slice Ap y2.props.length np, .slice Ak y2.kids.length nk, .slice Ar y2.refs.length nr⟩) := Lib.hid (HL.out.keep (fun b h => hkn b (HSP.out b h).1))
          rw [hu]
          clear hu hb hb2 hkn HG
          have HG := HG2
          clear HG2
          obtain ⟨pa, hpa⟩ : ∃ z : Int, (if i = 0 then 0 else m.next + idxI KS y2.parent) = z := ⟨_, rfl⟩
          have HPA := Lib.hid hpa
          clear hpa
          go_upto_if 110 with fail
          go_cut [16] (fun s16 wx => s16 = .int .i64 i ∧ Below v5.heap.size v5 wx ∧ Blk wx hp 24 #[.int .i64 m.next, vo] ∧ OwnM wx v5.heap.size vo lo ∧ Blk wx nb 38 #[.int .i64 (m.next + (i : Int)), .string y2.concept, .int .i64 pa, .string y2.role, .slice Ap y2.props.length np, .slice Ak y2.kids.length nk, .slice Ar y2.refs.length nr] ∧ OwnL wx v5.heap.size ⟨y2, .slice Ap y2.props.length np, .slice Ak y2.kids.length nk, .slice Ar y2.refs.length nr⟩)
          case first =>
           by_cases hi0 : i = 0
           ·have q1 : ((i : Int) == 0) = true := by subst hi0; rfl
            have HP0 : Hid (pa = 0) := Lib.hid (by rw [← HPA.out, if_pos hi0])
            have t0 := HG.out.frozen 2; have r0 := HG.out.cell 2
            have hglt := HG.out.lt
            simp at r0
            clear hi0
            go_wp2_with fail
            clear t0 r0 hglt
            obtain ⟨u2, hu⟩ : ∃ z9 : World, u1.setCell ⟨nb, 2, none⟩ (.int .i64 0) = z9 := ⟨_, rfl⟩
            have HG2 : Hid (Blk u2 nb 38 #[.int .i64 (m.next + (i : Int)), .string y2.concept, .int .i64 0, .string y2.role, .slice Ap y2.props.length np, .slice Ak y2.kids.length nk, .slice Ar y2.refs.length nr]) := Lib.hid (by rw [← hu]; exact HG.out.set_ 2 (.int .i64 0))
            have hb2 : Below nb u1 u2 := by rw [← hu]; exact (Below.refl _ _).setCell (p := ⟨nb, 2, none⟩) (Nat.le_refl _) _
            have hb : Below v5.heap.size u1 u2 := hb2.mono hnbv
            have hkn : ∀ b, b ≠ nb → u2.heap[b]? = u1.heap[b]? := fun b h => by rw [← hu]; exact Below.heap_setCell _ _ _ _ h
            replace HB_v5 : Hid (Below v5.heap.size v5 u2) := Lib.hid (HB_v5.out.trans hb)
            replace HP := Lib.hid (HP.out.below hb2 (by omega))
            replace HO : Hid (OwnM u2 v5.heap.size vo lo) := Lib.hid (HO.out.aside (fun b h => hkn b (HVO.out b h)))
            replace HL : Hid (OwnL u2 v5.heap.size ⟨y2, .slice Ap y2.props.length np, .slice Ak y2.kids.length nk, .slice Ar y2.refs.length nr⟩) := Lib.hid (HL.out.keep (fun b h => hkn b (HSP.out b h).1))
            rw [hu]
            clear hu hb hb2 hkn HG
            have HG := HG2
            clear HG2
            have HG2 : Hid (Blk u2 nb 38 #[.int .i64 (m.next + (i : Int)), .string y2.concept, .int .i64 pa, .string y2.role, .slice Ap y2.props.length np, .slice Ak y2.kids.length nk, .slice Ar y2.refs.length nr]) := Lib.hid (by rw [HP0.out]; exact HG.out)
            clear HG HP0
            have HG := HG2
            clear HG2
            go_wp2_with fail
            go_meet
            case rel => exact ⟨rfl, HB_v5.out, HP.out, HO.out, HG.out, HL.out⟩
           ·have q1 : ((i : Int) == 0) = false := beq_eq_false_iff_ne.2 (by omega)
            have HP0 : Hid (pa = m.next + idxI KS y2.parent) := Lib.hid (by rw [← HPA.out, if_neg hi0])
            obtain ⟨ix, hix⟩ : ∃ z, idxI KS y2.parent = z := ⟨_, rfl⟩
            have hixr : -1 ≤ ix ∧ ix < kl := by rw [← hix, ← HKL.out]; rcases idxI_cases KS y2.parent with ⟨q, hq, _, e, _⟩ | ⟨_, e⟩ <;> rw [e] <;> omega
            have wi : IntKind.i64.wrap (m.next + ix) = m.next + ix := by rw [IntKind.wrap_i64]; omega
            rw [hix] at HP0
            have HIX := Lib.hid hix
            clear hix hi0
            have HS23 : Hid (∀ w', Below v5.heap.size v5 w' → Blk w' nb 38 #[.int .i64 (m.next + (i : Int)), .string y2.concept, .int .i64 y2.parent, .string y2.role, .slice Ap y2.props.length np, .slice Ak y2.kids.length nk, .slice Ar y2.refs.length nr] → w'.cell? ⟨w.heap.size, 0, none⟩ = some (.int .i64 m.next) ∧ w'.cell? ⟨nb, 2, none⟩ = some (.int .i64 y2.parent)) := Lib.hid (fun w' h1 h2 => by
             have a := h2.cell 2
             simp at a
             exact ⟨(HSX.out _ h1).1, a⟩)
            have hq0 := HS23.out _ HB_v5.out HG.out
            obtain ⟨hq1, hq2⟩ := hq0
            go_upto_region 23 with fail
            clear hq1 hq2
            obtain ⟨u, hu⟩ : ∃ u : World, u1.drew = u := ⟨_, rfl⟩
            have hb2 : Below u1.heap.size u1 u := by rw [← hu]; exact (Below.refl _ _).drew
            have hb : Below v5.heap.size u1 u := hb2.mono HB_v5.out.size
            have hnbl := HG.out.lt
            have hpl := HP.out.lt
            replace HG := Lib.hid (HG.out.below hb2 hnbl)
            replace HB_v5 : Hid (Below v5.heap.size v5 u) := Lib.hid (HB_v5.out.trans hb)
            replace HP := Lib.hid (HP.out.below hb2 hpl)
            replace HO := Lib.hid (HO.out.below hb2)
            replace HL := Lib.hid (HL.out.keep (w' := u) fun b h => hb2.block b (HL.out.lt b h).2)
            have HKR : Hid (RowOf 1 EInt u (fun b => b < u.heap.size) (some ⟨gk, 0, none⟩) KS) := Lib.hid (by
             obtain ⟨A', c', e, _, _, h3⟩ := (OwnI.below HKO.out HB_v5.out).isRow (F := fun b => b < u.heap.size) (fun b _ h => h)
             injection e with e1; subst e1; exact h3)
            clear hb hb2 hnbl hpl
            refine wp_region_Y (S := (fun w' : World => w'.cell? ⟨w.heap.size, 0, none⟩ = some (.int .i64 m.next) ∧ w'.cell? ⟨nb, 2, none⟩ = some (.int .i64 y2.parent))) 8 (by kernel_rfl) (by rw [hu]; exact HS23.out _ HB_v5.out HG.out) (fun hHeld => ?_)
            rw [hu] at hHeld ⊢
            clear hu
            refine wpAnyY_take (i := 0) (v := ?_) rfl (by kernel_rfl) (by kernel_rfl) (by kernel_rfl) (by kernel_rfl) (fun _ _ _ h => h) (Or.inl ⟨by rfl, ?_⟩) (by assumption) ?_
            rotate_left 1
            ·(intro w' hSw; obtain ⟨s0, s1⟩ := hSw; go_simp); try with_reducible rfl
            try simp only [Act.put, List.setIfInBounds_toArray, List.set_cons_zero, List.set_cons_succ, Nat.zero_add]
            refine wpAnyY_take (i := 1) (v := ?_) rfl (by kernel_rfl) (by kernel_rfl) (by kernel_rfl) (by kernel_rfl) (fun _ _ _ h => h) (Or.inl ⟨by rfl, ?_⟩) (by assumption) ?_
            rotate_left 1
            ·(intro w' hSw; obtain ⟨s0, s1⟩ := hSw; go_simp); try with_reducible rfl
            try simp only [Act.put, List.setIfInBounds_toArray, List.set_cons_zero, List.set_cons_succ, Nat.zero_add]
            refine wpAnyY_take (i := 2) (v := ?_) rfl (by kernel_rfl) (by kernel_rfl) (by kernel_rfl) (by kernel_rfl) (fun _ _ _ h => h) (Or.inl ⟨by rfl, ?_⟩) (by assumption) ?_
            rotate_left 1
            ·(intro w' hSw; obtain ⟨s0, s1⟩ := hSw; go_simp); try with_reducible rfl
            try simp only [Act.put, List.setIfInBounds_toArray, List.set_cons_zero, List.set_cons_succ, Nat.zero_add]
            refine wpAnyY_take (i := 3) (v := ?_) rfl (by kernel_rfl) (by kernel_rfl) (by kernel_rfl) (by kernel_rfl) (fun _ _ _ h => h) (Or.inl ⟨by rfl, ?_⟩) (by assumption) ?_
            rotate_left 1
            ·(intro w' hSw; obtain ⟨s0, s1⟩ := hSw; go_simp); try with_reducible rfl
            try simp only [Act.put, List.setIfInBounds_toArray, List.set_cons_zero, List.set_cons_succ, Nat.zero_add]
            refine wpAnyY_take (i := 4) (v := ?_) rfl (by kernel_rfl) (by kernel_rfl) (by kernel_rfl) (by kernel_rfl) (fun _ _ _ h => h) (Or.inl ⟨by rfl, ?_⟩) (by assumption) ?_
            rotate_left 1
            ·(intro w' hSw; obtain ⟨s0, s1⟩ := hSw; go_simp); try with_reducible rfl
            try simp only [Act.put, List.setIfInBounds_toArray, List.set_cons_zero, List.set_cons_succ, Nat.zero_add]
            refine wpAnyY_one (i := 5) rfl (by kernel_rfl) (fun K hK => ?_)
            go_simp
            have HIA := Lib.hid (index_any (some ⟨gk, 0, none⟩) c3 KS y2.parent u _ HKR.out (by rw [HKL.out]; omega))
            rw [HKL.out, HIX.out] at HIA
            refine HIA.out.mono ?_
            rintro _ _ ⟨rfl, rfl⟩
            go_simp
            refine hK.out _ _ (fun _ => HS23.out _ HB_v5.out HG.out) ?_
            clear HIA
            clear hK K
            try simp only [Act.put, List.setIfInBounds_toArray, List.set_cons_zero, List.set_cons_succ, Nat.zero_add]
            refine wpAnyY_take (i := 6) (v := ?_) rfl (by kernel_rfl) (by kernel_rfl) (by kernel_rfl) (by kernel_rfl) (fun _ _ _ h => h) (Or.inl ⟨by rfl, ?_⟩) (by assumption) ?_
            rotate_left 1
            ·(intro w' hSw; obtain ⟨s0, s1⟩ := hSw; go_simp); try with_reducible rfl
            try simp only [Act.put, List.setIfInBounds_toArray, List.set_cons_zero, List.set_cons_succ, Nat.zero_add]
            refine wpAnyY_take (i := 7) (v := ?_) rfl (by kernel_rfl) (by kernel_rfl) (by kernel_rfl) (by kernel_rfl) (fun _ _ _ h => h) (Or.inl ⟨by rfl, ?_⟩) (by assumption) ?_
            rotate_left 1
            ·(intro w' hSw; obtain ⟨s0, s1⟩ := hSw; go_simp); try with_reducible rfl
            try simp only [Act.put, List.setIfInBounds_toArray, List.set_cons_zero, List.set_cons_succ, Nat.zero_add]
            refine wpAnyY_one0 (i := 8) rfl (by kernel_rfl) (by kernel_rfl) (fun K hK => ?_)
            have t0 := HG.out.frozen 2; have r0 := HG.out.cell 2
            have hglt := HG.out.lt
            simp at r0
            go_simp
            refine hK.out _ _ ?_
            clear t0 r0 hglt
            clear hK K
            try simp only [Act.put, List.setIfInBounds_toArray, List.set_cons_zero, List.set_cons_succ, Nat.zero_add]
            refine wpAnyY_done (by kernel_rfl) ?_ _
            clear hHeld HS23 HKR
            obtain ⟨u2, hu⟩ : ∃ z9 : World, u.setCell ⟨nb, 2, none⟩ (.int .i64 (m.next + ix)) = z9 := ⟨_, rfl⟩
            have HG2 : Hid (Blk u2 nb 38 #[.int .i64 (m.next + (i : Int)), .string y2.concept, .int .i64 (m.next + ix), .string y2.role, .slice Ap y2.props.length np, .slice Ak y2.kids.length nk, .slice Ar y2.refs.length nr]) := Lib.hid (by rw [← hu]; exact HG.out.set_ 2 (.int .i64 (m.next + ix)))
            have hb2 : Below nb u u2 := by rw [← hu]; exact (Below.refl _ _).setCell (p := ⟨nb, 2, none⟩) (Nat.le_refl _) _
            have hb : Below v5.heap.size u u2 := hb2.mono hnbv
            have hkn : ∀ b, b ≠ nb → u2.heap[b]? = u.heap[b]? := fun b h => by rw [← hu]; exact Below.heap_setCell _ _ _ _ h
            replace HB_v5 : Hid (Below v5.heap.size v5 u2) := Lib.hid (HB_v5.out.trans hb)
            replace HP := Lib.hid (HP.out.below hb2 (by omega))
            replace HO : Hid (OwnM u2 v5.heap.size vo lo) := Lib.hid (HO.out.aside (fun b h => hkn b (HVO.out b h)))
            replace HL : Hid (OwnL u2 v5.heap.size ⟨y2, .slice Ap y2.props.length np, .slice Ak y2.kids.length nk, .slice Ar y2.refs.length nr⟩) := Lib.hid (HL.out.keep (fun b h => hkn b (HSP.out b h).1))
            rw [hu]
            clear hu hb hb2 hkn HG
            have HG := HG2
            clear HG2
            have HG2 : Hid (Blk u2 nb 38 #[.int .i64 (m.next + (i : Int)), .string y2.concept, .int .i64 pa, .string y2.role, .slice Ap y2.props.length np, .slice Ak y2.kids.length nk, .slice Ar y2.refs.length nr]) := Lib.hid (by rw [HP0.out]; exact HG.out)
            clear HG HP0
            have HG := HG2
            clear HG2
            go_wp2_with fail
            go_meet
            case rel => exact ⟨rfl, HB_v5.out, HP.out, HO.out, HG.out, HL.out⟩
          case rest =>
           obtain ⟨rfl, hb, hpb, hown, hnb, hol⟩ := hcut
           clear HB_v5 HP HO HG HL
           obtain ⟨u2, rfl⟩ : ∃ v : World, v = wc := ⟨_, rfl⟩
           have HB_v5 := Lib.hid hb; have HP := Lib.hid hpb; have HO := Lib.hid hown; have HG := Lib.hid hnb; have HL := Lib.hid hol
           clear hb hpb hown hnb hol
           have g5 := HG.out.cell 5
           have hglt := HG.out.lt
           simp at g5
           go_wp2_with fail
           clear g5 hglt
           go_loopg [18] y2.kids.length (fun q s18 wx => ∃ jk : Nat, s18 = .int .i64 jk ∧ q = y2.kids.length - jk ∧ jk ≤ y2.kids.length ∧ Below v5.heap.size v5 wx ∧ Blk wx hp 24 #[.int .i64 m.next, vo] ∧ OwnM wx v5.heap.size vo lo ∧ Blk wx nb 38 #[.int .i64 (m.next + (i : Int)), .string y2.concept, .int .i64 pa, .string y2.role, .slice Ap y2.props.length np, .slice Ak y2.kids.length nk, .slice Ar y2.refs.length nr] ∧ OwnL wx v5.heap.size ⟨{ y2 with kids := partTo (fun k => m.next + idxI KS k) y2.kids jk }, .slice Ap y2.props.length np, .slice Ak y2.kids.length nk, .slice Ar y2.refs.length nr⟩)
           case atStart => exact ⟨0, rfl, rfl, Nat.zero_le _, HB_v5.out, HP.out, HO.out, HG.out, by rw [partTo_zero]; exact HL.out⟩
           case round =>
            clear HB_v5 HP HO HG HL
            obtain ⟨jk, rfl, rfl, hjk, hb, hpb, hown, hnb, hol⟩ := hrel
            have HB_v5 := Lib.hid hb; have HP := Lib.hid hpb; have HO := Lib.hid hown; have HG := Lib.hid hnb; have HL := Lib.hid hol
            have g5 := hnb.cell 5
            have hglt := hnb.lt
            simp at g5
            clear hb hpb hown hnb
            by_cases hlk : jk < y2.kids.length
            ·have hplen : (partTo (fun k => m.next + idxI KS k) y2.kids jk).length = y2.kids.length := partTo_len _
             have hkb := HK4.out y2 HY2.out
             obtain ⟨gq, capq, e, _, _, hgqB, _⟩ := own_some hol.k (by show 0 < (partTo (fun k => m.next + idxI KS k) y2.kids jk).length; omega)
             injection e with e1 e3 e2
             clear e3
             subst e1; subst e2
             obtain ⟨kj, hkj⟩ : ∃ z, y2.kids[jk] = z := ⟨_, rfl⟩
             have HS27 : Hid (∀ w', Below v5.heap.size v5 w' → Blk w' nb 38 #[.int .i64 (m.next + (i : Int)), .string y2.concept, .int .i64 pa, .string y2.role, .slice Ap y2.props.length np, .slice (some ⟨gq, 0, none⟩) y2.kids.length nk, .slice Ar y2.refs.length nr] → OwnI w' v5.heap.size (.slice (some ⟨gq, 0, none⟩) y2.kids.length nk) (partTo (fun k => m.next + idxI KS k) y2.kids jk) → w'.cell? ⟨w.heap.size, 0, none⟩ = some (.int .i64 m.next) ∧ w'.cell? ⟨nb, 5, none⟩ = some (.slice (some ⟨gq, 0, none⟩) y2.kids.length nk) ∧ w'.cell? ⟨gq, jk, none⟩ = some (.int .i64 kj)) := Lib.hid (fun w' h1 h2 h3 => by
              have a := h2.cell 5
              simp at a
              rw [← hplen] at h3
              have c := own_cell h3 jk (by omega)
              rw [List.getElem?_map, List.getElem?_eq_getElem (by omega), partTo_at hlk, hkj] at c
              exact ⟨(HSX.out _ h1).1, a, c⟩)
             obtain ⟨ix, hix⟩ : ∃ z, idxI KS kj = z := ⟨_, rfl⟩
             have hixr : -1 ≤ ix ∧ ix < kl := by rw [← hix, ← HKL.out]; rcases idxI_cases KS kj with ⟨q, hq, _, e, _⟩ | ⟨_, e⟩ <;> rw [e] <;> omega
             have wi : IntKind.i64.wrap (m.next + ix) = m.next + ix := by rw [IntKind.wrap_i64]; omega
             have HIX := Lib.hid hix
             have HSET : Hid ((partTo (fun k => m.next + idxI KS k) y2.kids jk).set jk (m.next + ix) = partTo (fun k => m.next + idxI KS k) y2.kids (jk + 1)) := Lib.hid (by rw [← hix, ← hkj]; exact partTo_set (f := fun k => m.next + idxI KS k) hlk)
             have HGQ : Hid (gq ≠ nb ∧ gq ≠ hp ∧ some gq ∉ (vo.ownBlock :: allBlocks lo) ∧ (Value.slice Ap y2.props.length np).ownBlock ≠ some gq ∧ (Value.slice Ar y2.refs.length nr).ownBlock ≠ some gq) := Lib.hid (by
              have h1 := HSP.out gq (by simp [LN.blocks, Value.ownBlock])
              have h2 := HCN.out gq
              refine ⟨h1.1, fun e => own_ne_ty HL.out.k HP.out (by decide) (by rw [← e]; rfl), h1.2, fun e => ?_, fun e => ?_⟩
              ·have h3 : [(Value.slice Ap y2.props.length np).ownBlock, some gq, (Value.slice Ar y2.refs.length nr).ownBlock].count (some gq) ≤ 1 := h2
               rw [e, List.count_cons_self, List.count_cons_self] at h3
               omega
              ·have h3 : [(Value.slice Ap y2.props.length np).ownBlock, some gq, (Value.slice Ar y2.refs.length nr).ownBlock].count (some gq) ≤ 1 := h2
               rw [e, List.count_cons, List.count_cons_self, List.count_cons_self] at h3
               omega)
             have k1 : (jk : Int) < y2.kids.length := by omega
             have k0 : (0 : Int) ≤ jk := by omega
             clear hol hix hkj
             go_upto_region 27 with fail
             clear g5 hglt
             obtain ⟨u, hu⟩ : ∃ u : World, wr.drew = u := ⟨_, rfl⟩
             have hb2 : Below wr.heap.size wr u := by rw [← hu]; exact (Below.refl _ _).drew
             have hb : Below v5.heap.size wr u := hb2.mono HB_v5.out.size
             have hnbl := HG.out.lt
             have hpl := HP.out.lt
             replace HG := Lib.hid (HG.out.below hb2 hnbl)
             replace HB_v5 : Hid (Below v5.heap.size v5 u) := Lib.hid (HB_v5.out.trans hb)
             replace HP := Lib.hid (HP.out.below hb2 hpl)
             replace HO := Lib.hid (HO.out.below hb2)
             replace HL := Lib.hid (HL.out.keep (w' := u) fun b h => hb2.block b (HL.out.lt b h).2)
             have HKR : Hid (RowOf 1 EInt u (fun b => b < u.heap.size) (some ⟨gk, 0, none⟩) KS) := Lib.hid (by
              obtain ⟨A', c', e, _, _, h3⟩ := (OwnI.below HKO.out HB_v5.out).isRow (F := fun b => b < u.heap.size) (fun b _ h => h)
              injection e with e1; subst e1; exact h3)
             clear hb hb2 hnbl hpl
             refine wp_region_Y (S := (fun w' : World => w'.cell? ⟨w.heap.size, 0, none⟩ = some (.int .i64 m.next) ∧ w'.cell? ⟨nb, 5, none⟩ = some (.slice (some ⟨gq, 0, none⟩) y2.kids.length nk) ∧ w'.cell? ⟨gq, jk, none⟩ = some (.int .i64 kj))) 14 (by kernel_rfl) (by rw [hu]; exact HS27.out _ HB_v5.out HG.out HL.out.k) (fun hHeld => ?_)
             rw [hu] at hHeld ⊢
             clear hu
             refine wpAnyY_take (i := 0) (v := ?_) rfl (by kernel_rfl) (by kernel_rfl) (by kernel_rfl) (by kernel_rfl) (fun _ _ _ h => h) (Or.inl ⟨by rfl, ?_⟩) (by assumption) ?_
             rotate_left 1
             ·(intro w' hSw; obtain ⟨s0, s1, s2⟩ := hSw; go_simp); try with_reducible rfl
             try simp only [Act.put, List.setIfInBounds_toArray, List.set_cons_zero, List.set_cons_succ, Nat.zero_add]
             refine wpAnyY_take (i := 1) (v := ?_) rfl (by kernel_rfl) (by kernel_rfl) (by kernel_rfl) (by kernel_rfl) (fun _ _ _ h => h) (Or.inl ⟨by rfl, ?_⟩) (by assumption) ?_
             rotate_left 1
             ·(intro w' hSw; obtain ⟨s0, s1, s2⟩ := hSw; go_simp); try with_reducible rfl
             try simp only [Act.put, List.setIfInBounds_toArray, List.set_cons_zero, List.set_cons_succ, Nat.zero_add]
             refine wpAnyY_take (i := 2) (v := ?_) rfl (by kernel_rfl) (by kernel_rfl) (by kernel_rfl) (by kernel_rfl) (fun _ _ _ h => h) (Or.inl ⟨by rfl, ?_⟩) (by assumption) ?_
             rotate_left 1
             ·(intro w' hSw; obtain ⟨s0, s1, s2⟩ := hSw; go_simp); try with_reducible rfl
             try simp only [Act.put, List.setIfInBounds_toArray, List.set_cons_zero, List.set_cons_succ, Nat.zero_add]
             refine wpAnyY_take (i := 3) (v := ?_) rfl (by kernel_rfl) (by kernel_rfl) (by kernel_rfl) (by kernel_rfl) (fun _ _ _ h => h) (Or.inl ⟨by rfl, ?_⟩) (by assumption) ?_
             rotate_left 1
             ·(intro w' hSw; obtain ⟨s0, s1, s2⟩ := hSw; go_simp); try with_reducible rfl
             try simp only [Act.put, List.setIfInBounds_toArray, List.set_cons_zero, List.set_cons_succ, Nat.zero_add]
             refine wpAnyY_take (i := 4) (v := ?_) rfl (by kernel_rfl) (by kernel_rfl) (by kernel_rfl) (by kernel_rfl) (fun _ _ _ h => h) (Or.inl ⟨by rfl, ?_⟩) (by assumption) ?_
             rotate_left 1
             ·(intro w' hSw; obtain ⟨s0, s1, s2⟩ := hSw; go_simp); try with_reducible rfl
             try simp only [Act.put, List.setIfInBounds_toArray, List.set_cons_zero, List.set_cons_succ, Nat.zero_add]
             refine wpAnyY_take (i := 5) (v := ?_) rfl (by kernel_rfl) (by kernel_rfl) (by kernel_rfl) (by kernel_rfl) (fun _ _ _ h => h) (Or.inl ⟨by rfl, ?_⟩) (by assumption) ?_
             rotate_left 1
             ·(intro w' hSw; obtain ⟨s0, s1, s2⟩ := hSw; go_simp); try with_reducible rfl
             try simp only [Act.put, List.setIfInBounds_toArray, List.set_cons_zero, List.set_cons_succ, Nat.zero_add]
             refine wpAnyY_take (i := 6) (v := ?_) rfl (by kernel_rfl) (by kernel_rfl) (by kernel_rfl) (by kernel_rfl) (fun _ _ _ h => h) (Or.inl ⟨by rfl, ?_⟩) (by assumption) ?_
             rotate_left 1
             ·(intro w' hSw; obtain ⟨s0, s1, s2⟩ := hSw; go_simp); try with_reducible rfl
             try simp only [Act.put, List.setIfInBounds_toArray, List.set_cons_zero, List.set_cons_succ, Nat.zero_add]
             refine wpAnyY_take (i := 7) (v := ?_) rfl (by kernel_rfl) (by kernel_rfl) (by kernel_rfl) (by kernel_rfl) (fun _ _ _ h => h) (Or.inl ⟨by rfl, ?_⟩) (by assumption) ?_
             rotate_left 1
             ·(intro w' hSw; obtain ⟨s0, s1, s2⟩ := hSw; go_simp); try with_reducible rfl
             try simp only [Act.put, List.setIfInBounds_toArray, List.set_cons_zero, List.set_cons_succ, Nat.zero_add]
             refine wpAnyY_take (i := 8) (v := ?_) rfl (by kernel_rfl) (by kernel_rfl) (by kernel_rfl) (by kernel_rfl) (fun _ _ _ h => h) (Or.inl ⟨by rfl, ?_⟩) (by assumption) ?_
             rotate_left 1
             ·(intro w' hSw; obtain ⟨s0, s1, s2⟩ := hSw; go_simp); try with_reducible rfl
             try simp only [Act.put, List.setIfInBounds_toArray, List.set_cons_zero, List.set_cons_succ, Nat.zero_add]
             refine wpAnyY_take (i := 9) (v := ?_) rfl (by kernel_rfl) (by kernel_rfl) (by kernel_rfl) (by kernel_rfl) (fun _ _ _ h => h) (Or.inl ⟨by rfl, ?_⟩) (by assumption) ?_
             rotate_left 1
             ·(intro w' hSw; obtain ⟨s0, s1, s2⟩ := hSw; go_simp); try with_reducible rfl
             try simp only [Act.put, List.setIfInBounds_toArray, List.set_cons_zero, List.set_cons_succ, Nat.zero_add]
             refine wpAnyY_take (i := 10) (v := ?_) rfl (by kernel_rfl) (by kernel_rfl) (by kernel_rfl) (by kernel_rfl) (fun _ _ _ h => h) (Or.inl ⟨by rfl, ?_⟩) (by assumption) ?_
             rotate_left 1
             ·(intro w' hSw; obtain ⟨s0, s1, s2⟩ := hSw; go_simp); try with_reducible rfl
             try simp only [Act.put, List.setIfInBounds_toArray, List.set_cons_zero, List.set_cons_succ, Nat.zero_add]
             refine wpAnyY_one (i := 11) rfl (by kernel_rfl) (fun K hK => ?_)
             go_simp
             have HIA := Lib.hid (index_any (some ⟨gk, 0, none⟩) c3 KS kj u _ HKR.out (by rw [HKL.out]; omega))
             rw [HKL.out, HIX.out] at HIA
             refine HIA.out.mono ?_
             rintro _ _ ⟨rfl, rfl⟩
             go_simp
             refine hK.out _ _ (fun _ => HS27.out _ HB_v5.out HG.out HL.out.k) ?_
             clear HIA
             clear hK K
             try simp only [Act.put, List.setIfInBounds_toArray, List.set_cons_zero, List.set_cons_succ, Nat.zero_add]
             refine wpAnyY_take (i := 12) (v := ?_) rfl (by kernel_rfl) (by kernel_rfl) (by kernel_rfl) (by kernel_rfl) (fun _ _ _ h => h) (Or.inl ⟨by rfl, ?_⟩) (by assumption) ?_
             rotate_left 1
             ·(intro w' hSw; obtain ⟨s0, s1, s2⟩ := hSw; go_simp); try with_reducible rfl
             try simp only [Act.put, List.setIfInBounds_toArray, List.set_cons_zero, List.set_cons_succ, Nat.zero_add]
             refine wpAnyY_take (i := 13) (v := ?_) rfl (by kernel_rfl) (by kernel_rfl) (by kernel_rfl) (by kernel_rfl) (fun _ _ _ h => h) (Or.inl ⟨by rfl, ?_⟩) (by assumption) ?_
             rotate_left 1
             ·(intro w' hSw; obtain ⟨s0, s1, s2⟩ := hSw; go_simp); try with_reducible rfl
             try simp only [Act.put, List.setIfInBounds_toArray, List.set_cons_zero, List.set_cons_succ, Nat.zero_add]
             refine wpAnyY_one0 (i := 14) rfl (by kernel_rfl) (by kernel_rfl) (fun K hK => ?_)
             have c0 := (HS27.out _ HB_v5.out HG.out HL.out.k).2.2
             have f0 : u.frozen? ⟨gq, jk, none⟩ = false := by have h := HL.out.k; rw [← hplen] at h; exact own_frozen h jk
             go_simp
             refine hK.out _ _ ?_
             clear c0 f0
             clear hK K
             try simp only [Act.put, List.setIfInBounds_toArray, List.set_cons_zero, List.set_cons_succ, Nat.zero_add]
             refine wpAnyY_done (by kernel_rfl) ?_ _
             clear hHeld HS27 HKR
             obtain ⟨u9, hu⟩ : ∃ z9 : World, u.setCell ⟨gq, jk, none⟩ (.int .i64 (m.next + ix)) = z9 := ⟨_, rfl⟩
             have hkn : ∀ b, b ≠ gq → u9.heap[b]? = u.heap[b]? := fun b h => by rw [← hu]; exact Below.heap_setCell _ _ _ _ h
             have hb : Below v5.heap.size u u9 := by rw [← hu]; exact (Below.refl _ _).setCell (p := ⟨gq, jk, none⟩) hgqB _
             have HL2 : Hid (OwnL u9 v5.heap.size ⟨{ y2 with kids := partTo (fun k => m.next + idxI KS k) y2.kids (jk + 1) }, .slice Ap y2.props.length np, .slice (some ⟨gq, 0, none⟩) y2.kids.length nk, .slice Ar y2.refs.length nr⟩) := Lib.hid ⟨own_keep HL.out.p (fun b e => hkn b (fun e2 => HGQ.out.2.2.2.1 (by rw [← e2]; exact e))), by
              have h := HL.out.k
              rw [← hplen] at h
              have h2 := own_set h (i := jk) (by rw [Nat.mul_one, hplen]; exact hlk) (.int .i64 (m.next + ix))
              rw [hu] at h2
              show OwnI u9 _ _ _
              rw [← HSET.out]
              unfold OwnI
              simpa [hplen, List.map_set] using h2, own_keep HL.out.r (fun b e => hkn b (fun e2 => HGQ.out.2.2.2.2 (by rw [← e2]; exact e)))⟩
             have HG2 : Hid (Blk u9 nb 38 #[.int .i64 (m.next + (i : Int)), .string y2.concept, .int .i64 pa, .string y2.role, .slice Ap y2.props.length np, .slice (some ⟨gq, 0, none⟩) y2.kids.length nk, .slice Ar y2.refs.length nr]) := Lib.hid ((hkn nb (Ne.symm HGQ.out.1)).trans HG.out)
             have HP2 : Hid (Blk u9 hp 24 #[.int .i64 m.next, vo]) := Lib.hid ((hkn hp (Ne.symm HGQ.out.2.1)).trans HP.out)
             have HO2 : Hid (OwnM u9 v5.heap.size vo lo) := Lib.hid (HO.out.aside (fun b h => hkn b (fun e => HGQ.out.2.2.1 (by rw [← e]; exact h))))
             have HB2 := Lib.hid (HB_v5.out.trans hb)
             rw [hu]
             clear hu hb hkn HB_v5 HP HO HG HL
             go_wp2_with fail
             go_roundg (y2.kids.length - (jk + 1))
             case measure => omega
             case rel => exact ⟨jk + 1, by go_num, rfl, by omega, HB2.out, HP2.out, HO2.out, HG2.out, HL2.out⟩
            ·have k9 : ¬ (jk : Int) < y2.kids.length := by omega
             have HL2 : Hid (OwnL wr v5.heap.size ⟨{ y2 with kids := y2.kids.map (fun k => m.next + idxI KS k), refs := partTo (refTo m.next KS) y2.refs 0 }, .slice Ap y2.props.length np, .slice Ak y2.kids.length nk, .slice Ar y2.refs.length nr⟩) := Lib.hid (by
              have h := HL.out
              rw [partTo_all (by omega)] at h
              rw [partTo_zero]; exact h)
             clear HL hol
             have g6 := HG.out.cell 6
             simp at g6
             go_wp2_with fail
             clear g6 g5 hglt k9
             clear hjk hlk
             go_loopg [19, 20] y2.refs.length (fun q s19 s20 wx => ∃ jr : Nat, s19 = .int .i64 jr ∧ q = y2.refs.length - jr ∧ jr ≤ y2.refs.length ∧ Below v5.heap.size v5 wx ∧ Blk wx hp 24 #[.int .i64 m.next, vo] ∧ OwnM wx v5.heap.size vo lo ∧ Blk wx nb 38 #[.int .i64 (m.next + (i : Int)), .string y2.concept, .int .i64 pa, .string y2.role, .slice Ap y2.props.length np, .slice Ak y2.kids.length nk, .slice Ar y2.refs.length nr] ∧ OwnL wx v5.heap.size ⟨{ y2 with kids := y2.kids.map (fun k => m.next + idxI KS k), refs := partTo (refTo m.next KS) y2.refs jr }, .slice Ap y2.props.length np, .slice Ak y2.kids.length nk, .slice Ar y2.refs.length nr⟩)
             case atStart => exact ⟨0, rfl, rfl, Nat.zero_le _, HB_v5.out, HP.out, HO.out, HG.out, HL2.out⟩
             case round =>
              clear HB_v5 HP HO HG HL2
              obtain ⟨jr, rfl, rfl, hjr, hb, hpb, hown, hnb, hol⟩ := hrel
              have HB_v5 := Lib.hid hb; have HP := Lib.hid hpb; have HO := Lib.hid hown; have HG := Lib.hid hnb; have HL := Lib.hid hol
              have g6 := hnb.cell 6
              have hglt := hnb.lt
              simp at g6
              clear hb hpb hown hnb
              by_cases hlk : jr < y2.refs.length
              ·have hplen : (partTo (refTo m.next KS) y2.refs jr).length = y2.refs.length := partTo_len _
               have hrb := (HZ'.out y2 HY2.out).2.2
               obtain ⟨gq, capq, e, _, _, hgqB, _⟩ := own_some hol.r (by show 0 < (partTo (refTo m.next KS) y2.refs jr).length; omega)
               injection e with e1 e3 e2
               clear e3
               subst e1; subst e2
               obtain ⟨rj, hrj⟩ : ∃ z, y2.refs[jr] = z := ⟨_, rfl⟩
               have hor : wr.ownsRow v5.heap.size 82 2 (.slice (some ⟨gq, 0, none⟩) y2.refs.length nr) (partTo (refTo m.next KS) y2.refs jr).length ((partTo (refTo m.next KS) y2.refs jr).flatMap refCells) := hol.r
               rw [hplen] at hor
               have gc : wr.cell? ⟨gq, jr * 2 + 1, none⟩ = some (.int .i64 rj.target) := by
                rw [own_cell hor _ (by omega), flat_at refCells_len _ jr 1 (by omega) (by omega), partTo_at hlk, hrj]; rfl
               have fc : wr.frozen? ⟨gq, jr * 2 + 1, none⟩ = false := own_frozen hor _
               have HOR := Lib.hid hor
               obtain ⟨ix, hix⟩ : ∃ z, idxI KS rj.target = z := ⟨_, rfl⟩
               have hixr : -1 ≤ ix ∧ ix < kl := by rw [← hix, ← HKL.out]; rcases idxI_cases KS rj.target with ⟨q, hq, _, e, _⟩ | ⟨_, e⟩ <;> rw [e] <;> omega
               have wi : IntKind.i64.wrap (m.next + ix) = m.next + ix := by rw [IntKind.wrap_i64]; omega
               have HIX := Lib.hid hix
               have HIN : Hid (0 ≤ ix ↔ rj.target ∈ KS) := Lib.hid (by
                rw [← hix]
                rcases idxI_cases KS rj.target with ⟨q, hq, e0, e, _⟩ | ⟨e0, e⟩
                ·rw [e]; exact ⟨fun _ => by rw [← e0]; exact List.getElem_mem hq, fun _ => by omega⟩
                ·rw [e]; exact ⟨fun h => absurd h (by omega), fun h => absurd h e0⟩)
               have HRJ := Lib.hid hrj
               have HGQ : Hid (gq ≠ nb ∧ gq ≠ hp ∧ some gq ∉ (vo.ownBlock :: allBlocks lo) ∧ (Value.slice Ap y2.props.length np).ownBlock ≠ some gq ∧ (Value.slice Ak y2.kids.length nk).ownBlock ≠ some gq) := Lib.hid (by
                have h1 := HSP.out gq (by simp [LN.blocks, Value.ownBlock])
                have h2 := HCN.out gq
                refine ⟨h1.1, fun e => own_ne_ty HL.out.r HP.out (by decide) (by rw [← e]; rfl), h1.2, fun e => ?_, fun e => ?_⟩
                ·have h3 : [(Value.slice Ap y2.props.length np).ownBlock, (Value.slice Ak y2.kids.length nk).ownBlock, some gq].count (some gq) ≤ 1 := h2
                 rw [e, List.count_cons_self, List.count_cons, List.count_cons_self] at h3
                 omega
                ·have h3 : [(Value.slice Ap y2.props.length np).ownBlock, (Value.slice Ak y2.kids.length nk).ownBlock, some gq].count (some gq) ≤ 1 := h2
                 rw [e, List.count_cons, List.count_cons_self, List.count_cons_self] at h3
                 omega)
               have HKR : Hid (RowOf 1 EInt wr (fun b => b < wr.heap.size) (some ⟨gk, 0, none⟩) KS) := Lib.hid (by
                obtain ⟨A', c', e, _, _, h3⟩ := (OwnI.below HKO.out HB_v5.out).isRow (F := fun b => b < wr.heap.size) (fun b _ h => h)
                injection e with e1; subst e1; exact h3)
               have HIA := Lib.hid (index_any (some ⟨gk, 0, none⟩) c3 KS rj.target wr _ HKR.out (by rw [HKL.out]; omega))
               rw [HKL.out, HIX.out] at HIA
               have k1 : (jr : Int) < y2.refs.length := by omega
               have k0 : (0 : Int) ≤ jr := by omega
               have m0 := (HSX.out _ HB_v5.out).1
               clear hol hix hrj hor HKR
               go_wp2_with fail
               refine HIA.out.mono ?_
               rintro _ _ ⟨rfl, rfl⟩
               clear HIA
               by_cases hi0 : 0 ≤ ix
               rotate_left 1
               ·have q2 : decide ((0 : Int) ≤ ix) = false := decide_eq_false hi0
                have HL2 : Hid (OwnL wr v5.heap.size ⟨{ y2 with kids := y2.kids.map (fun k => m.next + idxI KS k), refs := partTo (refTo m.next KS) y2.refs (jr + 1) }, .slice Ap y2.props.length np, .slice Ak y2.kids.length nk, .slice (some ⟨gq, 0, none⟩) y2.refs.length nr⟩) := Lib.hid (by
                 rw [← partTo_skip hlk (by rw [HRJ.out]; unfold refTo; rw [if_neg (fun h => hi0 (HIN.out.2 h))])]
                 exact HL.out)
                go_wp2_with fail
                go_roundg (y2.refs.length - (jr + 1))
                case measure => omega
                case rel => exact ⟨jr + 1, by go_num, rfl, by omega, HB_v5.out, HP.out, HO.out, HG.out, HL2.out⟩
               have q2 : decide ((0 : Int) ≤ ix) = true := decide_eq_true hi0
               go_upto_region 30 with fail
               clear gc fc m0 g6 hglt
               obtain ⟨u9, hu⟩ : ∃ z9 : World, wr.setCell ⟨gq, jr * 2 + 1, none⟩ (.int .i64 (m.next + ix)) = z9 := ⟨_, rfl⟩
               have hkn : ∀ b, b ≠ gq → u9.heap[b]? = wr.heap[b]? := fun b h => by rw [← hu]; exact Below.heap_setCell _ _ _ _ h
               have hb : Below v5.heap.size wr u9 := by rw [← hu]; exact (Below.refl _ _).setCell (p := ⟨gq, jr * 2 + 1, none⟩) hgqB _
               have HL2 : Hid (OwnL u9 v5.heap.size ⟨{ y2 with kids := y2.kids.map (fun k => m.next + idxI KS k), refs := partTo (refTo m.next KS) y2.refs (jr + 1) }, .slice Ap y2.props.length np, .slice Ak y2.kids.length nk, .slice (some ⟨gq, 0, none⟩) y2.refs.length nr⟩) := Lib.hid ⟨own_keep HL.out.p (fun b e => hkn b (fun e2 => HGQ.out.2.2.2.1 (by rw [← e2]; exact e))), own_keep HL.out.k (fun b e => hkn b (fun e2 => HGQ.out.2.2.2.2 (by rw [← e2]; exact e))), by
                have h2 := own_set HOR.out (i := jr * 2 + 1) (by omega) (.int .i64 (m.next + ix))
                rw [hu] at h2
                have h3 : (partTo (refTo m.next KS) y2.refs (jr + 1)).flatMap refCells = ((partTo (refTo m.next KS) y2.refs jr).flatMap refCells).set (jr * 2 + 1) (.int .i64 (m.next + ix)) := by
                 rw [← partTo_set hlk]
                 refine flat_set refCells_len _ jr 1 (by rw [partTo_len]; exact hlk) (by omega) _ _ ?_
                 rw [partTo_at hlk, HRJ.out]
                 unfold refTo
                 rw [if_pos (HIN.out.1 hi0), HIX.out]; rfl
                show u9.ownsRow _ _ _ _ (partTo (refTo m.next KS) y2.refs (jr + 1)).length ((partTo (refTo m.next KS) y2.refs (jr + 1)).flatMap refCells)
                rw [h3, partTo_len]
                exact h2⟩
               have HG2 : Hid (Blk u9 nb 38 #[.int .i64 (m.next + (i : Int)), .string y2.concept, .int .i64 pa, .string y2.role, .slice Ap y2.props.length np, .slice Ak y2.kids.length nk, .slice (some ⟨gq, 0, none⟩) y2.refs.length nr]) := Lib.hid ((hkn nb (Ne.symm HGQ.out.1)).trans HG.out)
               have HP2 : Hid (Blk u9 hp 24 #[.int .i64 m.next, vo]) := Lib.hid ((hkn hp (Ne.symm HGQ.out.2.1)).trans HP.out)
               have HO2 : Hid (OwnM u9 v5.heap.size vo lo) := Lib.hid (HO.out.aside (fun b h => hkn b (fun e => HGQ.out.2.2.1 (by rw [← e]; exact h))))
               have HB2 := Lib.hid (HB_v5.out.trans hb)
               rw [hu]
               clear hu hb hkn HB_v5 HP HO HG HL
               go_wp2_with fail
               go_roundg (y2.refs.length - (jr + 1))
               case measure => omega
               case rel => exact ⟨jr + 1, by go_num, rfl, by omega, HB2.out, HP2.out, HO2.out, HG2.out, HL2.out⟩
              ·have k9 : ¬ (jr : Int) < y2.refs.length := by omega
               obtain ⟨Av, cv, rfl⟩ := own_shape HO.out.row
               have HL2 : Hid (OwnL wr v5.heap.size (⟨copyN m KS i y2, .slice Ap y2.props.length np, .slice Ak y2.kids.length nk, .slice Ar y2.refs.length nr⟩ : LN)) := Lib.hid (by
                have h := HL.out
                rw [partTo_all (by omega)] at h
                exact ⟨h.p, by have h2 := h.k; show OwnI _ _ _ (y2.kids.map _); exact h2, by have h2 := h.r; show World.ownsRow _ _ _ _ _ (y2.refs.map _).length _; exact h2⟩)
               clear HL hol
               go_upto_region 34 with fail
               clear g6 hglt k9
               have e0 := HG.out.cell 0; have e1 := HG.out.cell 1; have e2 := HG.out.cell 2; have e3 := HG.out.cell 3; have e4 := HG.out.cell 4; have e5 := HG.out.cell 5; have e6 := HG.out.cell 6
               have p0 := HP.out.cell 0; have p1 := HP.out.cell 1
               have hglt := HG.out.lt; have hplt := HP.out.lt
               simp at e0 e1 e2 e3 e4 e5 e6 p0 p1
               obtain ⟨q, hq⟩ : ∃ q, wr.heap.size = q := ⟨_, rfl⟩
               have HQ : Hid (Blk (wr.alloc (.cells #[.int .i64 (m.next + (i : Int)), .string y2.concept, .int .i64 pa, .string y2.role, .slice Ap y2.props.length np, .slice Ak y2.kids.length nk, .slice Ar y2.refs.length nr] 38)) q 38 #[.int .i64 (m.next + (i : Int)), .string y2.concept, .int .i64 pa, .string y2.role, .slice Ap y2.props.length np, .slice Ak y2.kids.length nk, .slice Ar y2.refs.length nr]) := Lib.hid (by rw [← hq]; exact Blk.new _ _ _)
               have hbq : Below wr.heap.size wr (wr.alloc (.cells #[.int .i64 (m.next + (i : Int)), .string y2.concept, .int .i64 pa, .string y2.role, .slice Ap y2.props.length np, .slice Ak y2.kids.length nk, .slice Ar y2.refs.length nr] 38)) := (Below.refl wr.heap.size wr).alloc (Nat.le_refl _) _
               have HOq := Lib.hid (HO.out.below hbq)
               have HPq := Lib.hid (HP.out.below hbq HP.out.lt)
               have HBq := Lib.hid (HB_v5.out.trans (hbq.mono HB_v5.out.size))
               have HLq := Lib.hid (HL2.out.keep (w' := wr.alloc (.cells #[.int .i64 (m.next + (i : Int)), .string y2.concept, .int .i64 pa, .string y2.role, .slice Ap y2.props.length np, .slice Ak y2.kids.length nk, .slice Ar y2.refs.length nr] 38)) fun b h => hbq.block b (HL2.out.lt b h).2)
               have hlol : lo.length ≤ 8192 := by rw [HLO.out]; omega
               have HVQ : Hid (∀ k, (Value.slice Av lo.length cv).ownBlock = some k → k ≠ hp ∧ v5.heap.size ≤ k) := Lib.hid (fun k e => ⟨HO.out.ne_blk HP.out k (by rw [← e]; exact List.mem_cons_self ..), (HO.out.row.lt k e).1⟩)
               have hs5 : v5.heap.size ≤ wr.heap.size := HB_v5.out.size
               have HHQ := Lib.hid hq
               clear hbq HLO
               have HNEW : Hid (∀ ad : Addr, (some ⟨wr.heap.size, 0, none⟩ : Option Addr) = some ad → ∀ j u, (LN.cells (⟨copyN m KS i y2, .slice Ap y2.props.length np, .slice Ak y2.kids.length nk, .slice Ar y2.refs.length nr⟩ : LN))[j]? = some u → (wr.alloc (.cells #[.int .i64 (m.next + (i : Int)), .string y2.concept, .int .i64 pa, .string y2.role, .slice Ap y2.props.length np, .slice Ak y2.kids.length nk, .slice Ar y2.refs.length nr] 38)).cell? (ad.add j) = some u) := Lib.hid (by
                intro ad e j u hu
                cases e
                rw [HHQ.out]
                refine news_cells HQ.out j u ?_
                rw [← HPA.out]
                exact hu)
               go_wp2_with (at_builtin; refine wpList_append_from _ rfl (.tmp 168) (.tmp 170) 22 rfl v5.heap.size 38 Try.underlying22 node_info rfl (by omega) (.slice Av lo.length cv) lo.length (lo.flatMap LN.cells) (by first | rfl | simp [Act.eval]) HOq.out.row (some ⟨wr.heap.size, 0, none⟩) 1 1 (LN.cells (⟨copyN m KS i y2, .slice Ap y2.props.length np, .slice Ak y2.kids.length nk, .slice Ar y2.refs.length nr⟩ : LN)) (by first | rfl | simp [Act.eval]) rfl (by simp) HNEW.out (fun u hu => by simp only [LN.cells, nodeCellsA, copyN, List.mem_cons, List.not_mem_nil, or_false] at hu; rcases hu with rfl | rfl | rfl | rfl | rfl | rfl | rfl <;> rfl) (by unfold maxLen; omega) (by omega) (by simp; omega) ?_)
               intro A6 c6 w6 own6 hg6 hat6
               have HW6 : Hid (OwnM w6 v5.heap.size (.slice A6 (lo.length + 1) c6) (lo ++ [(⟨copyN m KS i y2, .slice Ap y2.props.length np, .slice Ak y2.kids.length nk, .slice Ar y2.refs.length nr⟩ : LN)])) := Lib.hid (HOq.out.push HLq.out HCN.out (fun b h => (HSP.out b h).2) own6 hg6 (by rcases hat6 with e | e; exact .inl e; exact .inr (by rw [e]; simp [HHQ.out])))
               have HB6 := Lib.hid (HBq.out.grown hg6 (by simp; omega) (fun k e => (HVQ.out k e).2))
               have HP6 := Lib.hid (HPq.out.grown hg6 (fun e => (HVQ.out _ e.symm).1 rfl))
               clear HNEW own6 hg6 hat6 e0 e1 e2 e3 e4 e5 e6 p0 p1 hglt hplt
               have p0 := HP6.out.cell 0; have p1 := HP6.out.cell 1
               have z1 := HP6.out.frozen 1
               have hplt := HP6.out.lt
               simp at p0 p1
               have HP7 : Hid (Blk (w6.setCell ⟨hp, 1, none⟩ (.slice A6 (lo.length + 1) c6)) hp 24 #[.int .i64 m.next, .slice A6 (lo.length + 1) c6]) := Lib.hid (by simpa using HP6.out.set_ 1 (.slice A6 (lo.length + 1) c6))
               have HB7 := Lib.hid (HB6.out.setCell (p := ⟨hp, 1, none⟩) hul (.slice A6 (lo.length + 1) c6))
               have HO7 : Hid (OwnM (w6.setCell ⟨hp, 1, none⟩ (.slice A6 (lo.length + 1) c6)) v5.heap.size (.slice A6 (lo.length + 1) c6) (lo ++ [(⟨copyN m KS i y2, .slice Ap y2.props.length np, .slice Ak y2.kids.length nk, .slice Ar y2.refs.length nr⟩ : LN)])) := Lib.hid (HW6.out.aside (fun b h => Below.heap_setCell _ _ _ _ (HW6.out.ne_blk HP6.out b h)))
               have HMP : Hid ((lo ++ [(⟨copyN m KS i y2, .slice Ap y2.props.length np, .slice Ak y2.kids.length nk, .slice Ar y2.refs.length nr⟩ : LN)]).map LN.n = m.nodes ++ copiesTo m KS (i + 1)) := Lib.hid (by
                rw [List.map_append, HLM.out, copiesTo, HNO.out, List.append_assoc]; rfl)
               have hik2 : i + 1 ≤ kl := by omega
               clear HB_v5 HP HO HG HL2 HQ HOq HPq HBq HLq HVQ HP6 HB6 HW6
               go_upto_region 18 with fail
               clear p0 p1 z1 hplt
               obtain ⟨w7, hw7⟩ : ∃ z, w6.setCell ⟨hp, 1, none⟩ (.slice A6 (lo.length + 1) c6) = z := ⟨_, rfl⟩
               rw [hw7] at HP7 HB7 HO7 ⊢
               clear hw7
               go_wp2_with fail
               go_roundg (kl - (i + 1))
               case measure => omega
               case rel => exact ⟨i + 1, _, _, by go_num, rfl, hik2, HB7.out, HP7.out, HO7.out, HMP.out⟩
        ·have k9 : ¬ (i : Int) < kl := by omega
         have hie : i = kl := by omega
         obtain ⟨Av, cv, rfl⟩ := own_shape HO.out.row
         have HMP : Hid (lo.map LN.n = m.nodes ++ copiesTo m (ksL m x.id) (ksL m x.id).length) := Lib.hid (by rw [HLM.out, HX.out.2, HKS.out, HKL.out, hie])
         have hmore : m.next + (ksL m x.id).length ≤ 1048577 := by rw [HX.out.2, HKS.out, HKL.out]; omega
         have hlol : lo.length ≤ 8192 := by rw [HLO.out]; omega
         have HMR := Lib.hid hmore
         clear hie HLM HLO hmore
         have hmlt := HM.out.lt; have hrlt := HR.out.lt; have hplt := HP.out.lt
         replace HM := Lib.hid (HM.out.below HB_v5.out hmlt)
         replace HR := Lib.hid (HR.out.below HB_v5.out hrlt)
         have w2 : IntKind.i64.wrap (m.next + (kl : Int)) = m.next + kl := by rw [IntKind.wrap_i64]; omega
         have m0 := HM.out.cell 0
         have p0 := HP.out.cell 0; have z0 := HP.out.frozen 0
         simp at m0 p0
         go_upto_region 36 with fail
         clear m0 p0 z0 k9
         obtain ⟨x1, hx1⟩ : ∃ z : World, wr.setCell ⟨hp, 0, none⟩ (.int .i64 (m.next + (kl : Int))) = z := ⟨_, rfl⟩
         have hb : Below v5.heap.size wr x1 := by rw [← hx1]; exact (Below.refl _ _).setCell (p := ⟨hp, 0, none⟩) hul _
         have HP2 : Hid (Blk x1 hp 24 #[.int .i64 (m.next + (kl : Int)), .slice Av lo.length cv]) := Lib.hid (by rw [← hx1]; simpa using HP.out.set_ 0 (.int .i64 (m.next + (kl : Int))))
         have HO2 : Hid (OwnM x1 v5.heap.size (.slice Av lo.length cv) lo) := Lib.hid (by rw [← hx1]; exact HO.out.aside (fun b h => Below.heap_setCell _ _ _ _ (HO.out.ne_blk HP.out b h)))
         replace HM := Lib.hid (HM.out.below hb hmlt)
         replace HR := Lib.hid (HR.out.below hb hrlt)
         replace HB_v5 : Hid (Below v5.heap.size v5 x1) := Lib.hid (HB_v5.out.trans hb)
         rw [hx1]
         clear hx1 hb HP HO
         obtain ⟨z, hz, hzi⟩ := copies_first (m := m) (x := x)
         have HHA := Lib.hid (put_any (m.next + (kl : Int)) (.slice Av lo.length cv) lo x1 v5.heap.size (OB v5.heap.size hp) (HO2.out.ob HP2.out) HO2.out HB_v5.out.size (by rw [HMP.out]; exact copies_srt (x := x) HCM.out HMR.out (Nat.le_refl _)) (by rw [HMP.out]; exact copies_kidsR HCM.out HX.out.1 HMR.out HRK.out (Nat.le_refl _)) (by omega) (by rw [HMP.out]; exact copies_closed HCM.out HX.out.1) z (by rw [HMP.out]; exact hz) p role a ha (iOf m p role a) (by rw [hzi, HMP.out]; exact copies_place (x := x) HCM.out HMR.out (.inr ⟨y, HY.out.1, HY.out.2⟩) HGE.out _) (fun h => absurd h hp0))
         rw [hzi, HMP.out] at HHA
         clear hz hzi
         have p0 := HP2.out.cell 0; have p1 := HP2.out.cell 1; have m0 := HM.out.cell 0
         have hplt2 := HP2.out.lt; have hmlt2 := HM.out.lt
         simp at p0 p1 m0
         have q0 : ((0 : Int) != 0) = false := by decide
         go_wp2_with fail
         refine HHA.out.mono ?_
         rintro _ uz ⟨rfl, l2, hown, hlm, hk⟩
         clear p0 p1 m0 hplt2 hmlt2 q0
         have hno1 : ¬ OB v5.heap.size hp w.heap.size := fun h => by have := h.1; omega
         have hno2 : ¬ OB v5.heap.size hp (w.heap.size + 1) := fun h => by have := h.1; omega
         have hno3 : ¬ OB v5.heap.size hp hp := fun h => h.2 rfl
         replace HM := Lib.hid (hk.blk HM.out hno1)
         replace HR := Lib.hid (hk.blk HR.out hno2)
         have HP := Lib.hid (hk.blk HP2.out hno3)
         replace HB_v5 : Hid (Below v5.heap.size v5 uz) := Lib.hid (HB_v5.out.trans (hk.toBelow HB_v5.out.size (fun b h => h.1)))
         have HFIN : Hid (l2.map LN.n = LL) := Lib.hid (by
          rw [hlm, ← HLL.out]
          unfold copyL
          rw [HX.out.2])
         have HO3 := Lib.hid hown
         clear hown hlm hk HHA HP2 HO2 hno1 hno2 hno3
         obtain ⟨ul, hul2⟩ : ∃ z : World, uz.drew = z := ⟨_, rfl⟩
         have hb : Below uz.heap.size uz ul := by rw [← hul2]; exact (Below.refl _ _).drew
         replace HM := Lib.hid (HM.out.below hb HM.out.lt)
         replace HR := Lib.hid (HR.out.below hb HR.out.lt)
         replace HP := Lib.hid (HP.out.below hb HP.out.lt)
         replace HO3 := Lib.hid (HO3.out.below hb)
         replace HB_v5 : Hid (Below v5.heap.size v5 ul) := Lib.hid (HB_v5.out.trans (hb.mono HB_v5.out.size))
         clear hb
         have HSF : Hid (ul.cell? ⟨hp, 0, none⟩ = some (.int .i64 (m.next + (kl : Int))) ∧ ul.cell? ⟨hp, 1, none⟩ = some (.slice Av lo.length cv) ∧ ul.cell? ⟨w.heap.size, 0, none⟩ = some (.int .i64 m.next)) := Lib.hid (by
          have a := HP.out.cell 0; have b := HP.out.cell 1; have c := HM.out.cell 0
          simp at a b c
          exact ⟨a, b, c⟩)
         have HSF2 : Hid (((ul.setCell ⟨w.heap.size + 1, 0, none⟩ (.int .i64 (m.next + (kl : Int)))).setCell ⟨w.heap.size + 1, 1, none⟩ (.slice Av lo.length cv)).cell? ⟨hp, 0, none⟩ = some (.int .i64 (m.next + (kl : Int))) ∧ ((ul.setCell ⟨w.heap.size + 1, 0, none⟩ (.int .i64 (m.next + (kl : Int)))).setCell ⟨w.heap.size + 1, 1, none⟩ (.slice Av lo.length cv)).cell? ⟨hp, 1, none⟩ = some (.slice Av lo.length cv) ∧ ((ul.setCell ⟨w.heap.size + 1, 0, none⟩ (.int .i64 (m.next + (kl : Int)))).setCell ⟨w.heap.size + 1, 1, none⟩ (.slice Av lo.length cv)).cell? ⟨w.heap.size, 0, none⟩ = some (.int .i64 m.next)) := Lib.hid (by
          have hp2 := (HP.out.far (p := ⟨w.heap.size + 1, 0, none⟩) (by show hp ≠ w.heap.size + 1; omega) (.int .i64 (m.next + (kl : Int)))).far (p := ⟨w.heap.size + 1, 1, none⟩) (by show hp ≠ w.heap.size + 1; omega) (.slice Av lo.length cv)
          have hm2 := (HM.out.far (p := ⟨w.heap.size + 1, 0, none⟩) (by show w.heap.size ≠ w.heap.size + 1; omega) (.int .i64 (m.next + (kl : Int)))).far (p := ⟨w.heap.size + 1, 1, none⟩) (by show w.heap.size ≠ w.heap.size + 1; omega) (.slice Av lo.length cv)
          have a := hp2.cell 0; have b := hp2.cell 1; have c := hm2.cell 0
          simp at a b c
          exact ⟨a, b, c⟩)
         have m0 := HM.out.cell 0
         go_upto_region 37 with fail
         clear m0
         have t0 := HR.out.frozen 0; have t1 := HR.out.frozen 1
         have r0 := HR.out.cell 0; have r1 := HR.out.cell 1
         have hrlt2 := HR.out.lt
         simp at r0 r1
         refine wp_region_Y (S := (fun w' : World => w'.cell? ⟨hp, 0, none⟩ = some (.int .i64 (m.next + (kl : Int))) ∧ w'.cell? ⟨hp, 1, none⟩ = some (.slice Av lo.length cv) ∧ w'.cell? ⟨w.heap.size, 0, none⟩ = some (.int .i64 m.next))) 5 (by kernel_rfl) (by rw [hul2]; exact HSF.out) (fun hHeld => ?_)
         rw [hul2] at hHeld ⊢
         clear hul2
         refine wpAnyY_take (i := 0) (v := ?_) rfl (by kernel_rfl) (by kernel_rfl) (by kernel_rfl) (by kernel_rfl) (fun _ _ _ h => h) (Or.inl ⟨by rfl, ?_⟩) (by assumption) ?_
         rotate_left 1
         ·(intro w' hSw; obtain ⟨s0, s1, s2⟩ := hSw; go_simp); try with_reducible rfl
         try simp only [Act.put, List.setIfInBounds_toArray, List.set_cons_zero, List.set_cons_succ, Nat.zero_add]
         refine wpAnyY_take (i := 1) (v := ?_) rfl (by kernel_rfl) (by kernel_rfl) (by kernel_rfl) (by kernel_rfl) (fun _ _ _ h => h) (Or.inl ⟨by rfl, ?_⟩) (by assumption) ?_
         rotate_left 1
         ·(intro w' hSw; obtain ⟨s0, s1, s2⟩ := hSw; go_simp); try with_reducible rfl
         try simp only [Act.put, List.setIfInBounds_toArray, List.set_cons_zero, List.set_cons_succ, Nat.zero_add]
         refine wpAnyY_take (i := 2) (v := ?_) rfl (by kernel_rfl) (by kernel_rfl) (by kernel_rfl) (by kernel_rfl) (fun _ _ _ h => h) (Or.inl ⟨by rfl, ?_⟩) (by assumption) ?_
         rotate_left 1
         ·(intro w' hSw; obtain ⟨s0, s1, s2⟩ := hSw; go_simp); try with_reducible rfl
         try simp only [Act.put, List.setIfInBounds_toArray, List.set_cons_zero, List.set_cons_succ, Nat.zero_add]
         refine wpAnyY_one (i := 3) rfl (by kernel_rfl) (fun K hK => ?_)
         go_simp
         refine hK.out _ _ (fun _ => HSF2.out) ?_
         clear hK K
         try simp only [Act.put, List.setIfInBounds_toArray, List.set_cons_zero, List.set_cons_succ, Nat.zero_add]
         refine wpAnyY_one (i := 4) rfl (by kernel_rfl) (fun K hK => ?_)
         go_simp
         refine hK.out _ _ (fun _ => HSF2.out) ?_
         clear hK K
         try simp only [Act.put, List.setIfInBounds_toArray, List.set_cons_zero, List.set_cons_succ, Nat.zero_add]
         refine wpAnyY_one0 (i := 5) rfl (by kernel_rfl) (by kernel_rfl) (fun K hK => ?_)
         go_simp
         refine hK.out _ _ ?_
         clear hK K
         try simp only [Act.put, List.setIfInBounds_toArray, List.set_cons_zero, List.set_cons_succ, Nat.zero_add]
         refine wpAnyY_done (by kernel_rfl) ?_ _
         clear hHeld
         go_wp2_with fail
         have hyS := (HR.out.set_ 0 (.int .i64 (m.next + (kl : Int)))).set_ 1 (.slice Av lo.length cv)
         have f0 := hyS.cell 0; have f1 := hyS.cell 1
         simp at f0 f1
         have HBW := Lib.hid (((HB_w.out.trans (HB_v5.out.mono HB_w.out.size)).setCell (p := ⟨w.heap.size + 1, 0, none⟩) (by show w.heap.size ≤ w.heap.size + 1; omega) (.int .i64 (m.next + (kl : Int)))).setCell (p := ⟨w.heap.size + 1, 1, none⟩) (by show w.heap.size ≤ w.heap.size + 1; omega) (.slice Av lo.length cv))
         refine bodyPost_ret (v := .tuple #[.agg #[.int .i64 (m.next + (kl : Int)), .slice Av lo.length cv], .int .i64 m.next, .int .i64 0]) (by simp [results, Try.results50, go_sem, f0, f1]) rfl ⟨⟨_, rfl, Or.inr ⟨E.out, .slice Av lo.length cv, by rw [HKS.out, HKL.out], ?_⟩⟩, HBW.out⟩
         rw [← HFIN.out]
         refine (HO3.out.keep (w' := (ul.setCell ⟨w.heap.size + 1, 0, none⟩ (.int .i64 (m.next + (kl : Int)))).setCell ⟨w.heap.size + 1, 1, none⟩ (.slice Av lo.length cv)) (fun b h1 _ => ?_)).isRow (fun b h1 h2 => ⟨by omega, h2⟩)
         exact (Below.heap_setCell _ _ _ _ (by show b ≠ w.heap.size + 1; omega)).trans (Below.heap_setCell _ _ _ _ (by show b ≠ w.heap.size + 1; omega))
end Go.Proofs.Ytmafhaadcjgcbaa
