import Derived.Test.YtmafhaadcjgcbaaMoveQ
import Derived.Test.YtmafhaadcjgcbaaTwinA
import Derived.Test.YtmafhaadcjgcbaaAOrder
set_option linter.unusedSimpArgs false
set_option linter.unusedVariables false
/- arena.Move -/
namespace Go.Proofs.Ytmafhaadcjgcbaa
open Go Go.RowKit

theorem own_ne_ty {w : World} {base : Nat} {e : TypeId} {size : Nat} {v : Value} {n : Nat} {xs : List Value} (h : w.ownsRow base e size v n xs) {g : Nat} {t : TypeId} {cs : Array Value} (hb : Blk w g t cs) (hne : t ≠ e) : v.ownBlock ≠ some g := by
  intro e1
  rcases h.2 with ⟨rfl, _⟩ | ⟨g', cap, cur, rfl, _, hh, _⟩
  · cases e1
  · have e2 : g' = g := by injection e1
    subst e2
    unfold Blk at hb
    rw [hh] at hb
    injection hb with hb
    injection hb with _ hb _
    exact hne hb.symm
theorem OwnM.ne_blk {w : World} {base : Nat} {v : Value} {l : List LN} (h : OwnM w base v l) {g : Nat} {cs : Array Value} (hb : Blk w g 24 cs) : ∀ b, some b ∈ (v.ownBlock :: allBlocks l) → b ≠ g := fun b hm e => by
  subst e
  rcases List.mem_cons.1 hm with hm | hm
  · exact own_ne_ty h.row hb (by decide) hm.symm
  · obtain ⟨x, hx, hm⟩ := List.mem_flatMap.1 hm
    have ho := h.lists x hx
    simp only [LN.blocks, List.mem_cons, List.not_mem_nil, or_false] at hm
    rcases hm with hm | hm | hm
    · exact own_ne_ty ho.p hb (by decide) hm.symm
    · exact own_ne_ty ho.k hb (by decide) hm.symm
    · exact own_ne_ty ho.r hb (by decide) hm.symm
/-- blocks from base on, but one -/
def OB (base g : Nat) (b : Nat) : Prop := base ≤ b ∧ b ≠ g
theorem OwnM.ob {w : World} {base : Nat} {v : Value} {l : List LN} (h : OwnM w base v l) {g : Nat} {cs : Array Value} (hb : Blk w g 24 cs) : ∀ b, some b ∈ (v.ownBlock :: allBlocks l) → OB base g b := fun b hm => ⟨(h.lt b hm).1, h.ne_blk hb b hm⟩
theorem OwnM.len_map {w : World} {base : Nat} {v : Value} {l : List LN} {ns : List ANode} (_ : OwnM w base v l) (e : l.map LN.n = ns) : l.length = ns.length := by rw [← e, List.length_map]

set_option maxRecDepth 100000 in
set_option maxHeartbeats 8000000 in
theorem moveA_any (A : Option Addr) (c : Nat) (m : AModel) (w : World) (F : Nat → Prop) (hF : ∀ b, F b → b < w.heap.size) (h : RowOf 7 ENode w F A m.nodes) (hz : ∀ x ∈ m.nodes, NodeOK x) (hz' : ∀ x ∈ m.nodes, LensOK x) (hl : m.nodes.length ≤ 9223372036854775807) (id : Int) (hid : InR id) (p : Int) (hpi : InR p) (role : ByteArray) (hns : role.size ≤ 9223372036854775807) (a : Int) (ha : InR a) :
    Calls Try.prog 47 #[.agg #[.int .i64 m.next, .slice A m.nodes.length c], .int .i64 id, .int .i64 p, .string role, .int .i64 a] w fun e w' => (∃ v, e = .returned v ∧ ResOwn w' w.heap.size m.next (moveE m id p role a) (moveL m id p role a) v) ∧ Below w.heap.size w w' := by
  obtain ⟨EE, hEE⟩ : ∃ EE, moveE m id p role a = EE := ⟨_, rfl⟩
  obtain ⟨LL, hLL⟩ : ∃ LL, moveL m id p role a = LL := ⟨_, rfl⟩
  rw [hEE, hLL]
  have HEE := Lib.hid hEE; have HLL := Lib.hid hLL
  clear hEE hLL
  have HH := Lib.hid h; have HZ := Lib.hid hz; have HZ' := Lib.hid hz'; have HLB := Lib.hid hl
  obtain ⟨n, hn⟩ : ∃ n, m.nodes.length = n := ⟨_, rfl⟩
  have HN := Lib.hid hn
  rw [hn] at hl ⊢
  clear h hz hz' hn
  obtain ⟨u0, hu0⟩ : ∃ u : World, (w.alloc (.cells #[.int .i64 m.next, .slice A n c] 24)).alloc (.cells #[.int .i64 0, .slice none 0 0] 24) = u := ⟨_, rfl⟩
  have HM : Hid (Blk u0 w.heap.size 24 #[.int .i64 m.next, .slice A n c]) := Lib.hid (by rw [← hu0]; exact (Blk.new w _ _).alloc _)
  have HR : Hid (Blk u0 (w.heap.size + 1) 24 #[.int .i64 0, .slice none 0 0]) := Lib.hid (by rw [← hu0]; exact Blk.new' (by simp))
  have hb : Below w.heap.size w u0 := by rw [← hu0]; exact ((Below.refl w.heap.size w).alloc (Nat.le_refl _) _).alloc (by simp) _
  have HU0 := Lib.hid hu0
  clear hu0
  have HB_w : Hid (Below w.heap.size w u0) := Lib.hid hb
  clear hb
  have HC := Lib.hid (check_any A c m u0 F (fun b hb => Nat.lt_of_lt_of_le (hF b hb) HB_w.out.size) (HH.out.keep ENode.stays (Keep.below HB_w.out hF) (fun _ h => h)) HZ.out HLB.out)
  rw [HN.out] at HC
  have HCC : Hid (Calls Try.prog 13 #[.agg #[.int .i64 m.next, .slice A n c]] u0 fun e w' => e = .returned (.int .i64 (checkI m)) ∧ Below u0.heap.size u0 w') := HC
  clear HC
  by_cases hc : CheckM m
  rotate_left 1
  · have HC2 := Lib.hid (int_is (checkI_no hc) HCC.out)
    have E := Lib.hid (show EE = 29 from HEE.out.symm.trans (moveE_check hc))
    clear hc HCC
    go_enter Try.func47, Try.ntmps47
    go_wp2_with fail
    (try rw [HU0.out])
    refine HC2.out.mono ?_
    rintro _ u1 ⟨rfl, hb⟩
    replace HB_w : Hid (Below w.heap.size w u1) := Lib.hid (HB_w.out.trans (hb.mono HB_w.out.size))
    replace HM := Lib.hid (HM.out.below hb HM.out.lt)
    replace HR := Lib.hid (HR.out.below hb HR.out.lt)
    clear hb HU0 HC2
    have t0 := HR.out.frozen 0; have t1 := HR.out.frozen 1
    have r0 := HR.out.cell 0; have r1 := HR.out.cell 1
    have hrlt := HR.out.lt
    simp at r0 r1
    go_wp2_with fail
    have hyS := (HR.out.set_ 0 (.int .i64 0)).set_ 1 (.slice none 0 0)
    have f0 := hyS.cell 0; have f1 := hyS.cell 1
    simp at f0 f1
    have HBW := Lib.hid ((HB_w.out.setCell (p := ⟨w.heap.size + 1, 0, none⟩) (by show w.heap.size ≤ w.heap.size + 1; omega) (.int .i64 0)).setCell (p := ⟨w.heap.size + 1, 1, none⟩) (by show w.heap.size ≤ w.heap.size + 1; omega) (.slice none 0 0))
    exact bodyPost_ret (v := .tuple #[.agg #[.int .i64 0, .slice none 0 0], .int .i64 (29)]) (by simp [results, Try.results47, go_sem, f0, f1]) rfl ⟨⟨_, rfl, Or.inl ⟨by rw [E.out]; decide, by rw [E.out]⟩⟩, HBW.out⟩
  have HC2 := Lib.hid (int_is (checkI_yes hc) HCC.out)
  have HCM := Lib.hid hc
  have HS := Lib.hid hc.1.srtB
  have hl4 : n ≤ 4096 := by rw [← HN.out]; exact hc.1.1.2.2
  have HRK : Hid (∀ x ∈ m.nodes, ∀ k ∈ x.kids, InR k) := Lib.hid (fun x hx => (HZ.out x hx).2.2)
  have HRPP : Hid (∀ x ∈ m.nodes, InR x.parent) := Lib.hid (fun x hx => (HZ.out x hx).2.1)
  clear hc HCC HLB
  rcases atI_cases m.nodes id with ⟨j, hj, hj1, hj2⟩ | ⟨hj1, hj2⟩
  rotate_left 1
  · have HAT := Lib.hid hj2
    have HLT : Hid (atI m.nodes id < 0) := Lib.hid (by rw [hj2]; omega)
    clear hj1 hj2
    by_cases hp0 : p = 0
    · subst hp0
      have g1 : ((0 : Int) != 0) = false := by decide
      go_enter Try.func47, Try.ntmps47
      go_wp2_with fail
      (try rw [HU0.out])
      refine HC2.out.mono ?_
      rintro _ u1 ⟨rfl, hb⟩
      replace HB_w : Hid (Below w.heap.size w u1) := Lib.hid (HB_w.out.trans (hb.mono HB_w.out.size))
      replace HM := Lib.hid (HM.out.below hb HM.out.lt)
      replace HR := Lib.hid (HR.out.below hb HR.out.lt)
      clear hb HU0 HC2
      have HMc0 := HM.out.cell 0
      have HMc1 := HM.out.cell 1
      have HMlt := HM.out.lt
      simp at HMc0 HMc1
      have HPL := Lib.hid (place_any A c m.next id m.nodes u1 F (fun b hb => Nat.lt_of_lt_of_le (hF b hb) HB_w.out.size) (HH.out.keep ENode.stays (Keep.below HB_w.out hF) (fun _ h => h)) HS.out hid (by rw [HN.out]; omega))
      rw [HAT.out, HN.out] at HPL
      go_wp2_with fail
      refine (HPL.out).mono ?_
      rintro _ u2 ⟨rfl, hb⟩
      replace HB_w : Hid (Below w.heap.size w u2) := Lib.hid (HB_w.out.trans (hb.mono HB_w.out.size))
      replace HM := Lib.hid (HM.out.below hb HM.out.lt)
      replace HR := Lib.hid (HR.out.below hb HR.out.lt)
      clear hb
      clear HPL HMc0 HMc1 HMlt
      have g4 : decide ((-1 : Int) < 0) = true := by decide
      have E := Lib.hid (show EE = 20 from HEE.out.symm.trans (moveE_node HCM.out (fun h => absurd rfl h) (.inl HLT.out)))
      have t0 := HR.out.frozen 0; have t1 := HR.out.frozen 1
      have r0 := HR.out.cell 0; have r1 := HR.out.cell 1
      have hrlt := HR.out.lt
      simp at r0 r1
      go_wp2_with fail
      have hyS := (HR.out.set_ 0 (.int .i64 0)).set_ 1 (.slice none 0 0)
      have f0 := hyS.cell 0; have f1 := hyS.cell 1
      simp at f0 f1
      have HBW := Lib.hid ((HB_w.out.setCell (p := ⟨w.heap.size + 1, 0, none⟩) (by show w.heap.size ≤ w.heap.size + 1; omega) (.int .i64 0)).setCell (p := ⟨w.heap.size + 1, 1, none⟩) (by show w.heap.size ≤ w.heap.size + 1; omega) (.slice none 0 0))
      exact bodyPost_ret (v := .tuple #[.agg #[.int .i64 0, .slice none 0 0], .int .i64 (20)]) (by simp [results, Try.results47, go_sem, f0, f1]) rfl ⟨⟨_, rfl, Or.inl ⟨by rw [E.out]; decide, by rw [E.out]⟩⟩, HBW.out⟩
    · have g1 : (p != 0) = true := by simp; exact hp0
      rcases hwc : wordA role with _ | _
      · have E := Lib.hid (show EE = 2 from HEE.out.symm.trans (moveE_word HCM.out hp0 hwc))
        have HW := Lib.hid hwc
        clear hwc
        go_enter Try.func47, Try.ntmps47
        go_wp2_with fail
        (try rw [HU0.out])
        refine HC2.out.mono ?_
        rintro _ u1 ⟨rfl, hb⟩
        replace HB_w : Hid (Below w.heap.size w u1) := Lib.hid (HB_w.out.trans (hb.mono HB_w.out.size))
        replace HM := Lib.hid (HM.out.below hb HM.out.lt)
        replace HR := Lib.hid (HR.out.below hb HR.out.lt)
        clear hb HU0 HC2
        go_wp2_with fail
        refine (aword_is hns HW.out u1).mono ?_
        rintro _ u2 ⟨rfl, hb⟩
        replace HB_w : Hid (Below w.heap.size w u2) := Lib.hid (HB_w.out.trans (hb.mono HB_w.out.size))
        replace HM := Lib.hid (HM.out.below hb HM.out.lt)
        replace HR := Lib.hid (HR.out.below hb HR.out.lt)
        clear hb
        have t0 := HR.out.frozen 0; have t1 := HR.out.frozen 1
        have r0 := HR.out.cell 0; have r1 := HR.out.cell 1
        have hrlt := HR.out.lt
        simp at r0 r1
        go_wp2_with fail
        have hyS := (HR.out.set_ 0 (.int .i64 0)).set_ 1 (.slice none 0 0)
        have f0 := hyS.cell 0; have f1 := hyS.cell 1
        simp at f0 f1
        have HBW := Lib.hid ((HB_w.out.setCell (p := ⟨w.heap.size + 1, 0, none⟩) (by show w.heap.size ≤ w.heap.size + 1; omega) (.int .i64 0)).setCell (p := ⟨w.heap.size + 1, 1, none⟩) (by show w.heap.size ≤ w.heap.size + 1; omega) (.slice none 0 0))
        exact bodyPost_ret (v := .tuple #[.agg #[.int .i64 0, .slice none 0 0], .int .i64 (2)]) (by simp [results, Try.results47, go_sem, f0, f1]) rfl ⟨⟨_, rfl, Or.inl ⟨by rw [E.out]; decide, by rw [E.out]⟩⟩, HBW.out⟩
      · have HW := Lib.hid hwc
        clear hwc
        go_enter Try.func47, Try.ntmps47
        go_wp2_with fail
        (try rw [HU0.out])
        refine HC2.out.mono ?_
        rintro _ u1 ⟨rfl, hb⟩
        replace HB_w : Hid (Below w.heap.size w u1) := Lib.hid (HB_w.out.trans (hb.mono HB_w.out.size))
        replace HM := Lib.hid (HM.out.below hb HM.out.lt)
        replace HR := Lib.hid (HR.out.below hb HR.out.lt)
        clear hb HU0 HC2
        go_wp2_with fail
        refine (aword_is hns HW.out u1).mono ?_
        rintro _ u2 ⟨rfl, hb⟩
        replace HB_w : Hid (Below w.heap.size w u2) := Lib.hid (HB_w.out.trans (hb.mono HB_w.out.size))
        replace HM := Lib.hid (HM.out.below hb HM.out.lt)
        replace HR := Lib.hid (HR.out.below hb HR.out.lt)
        clear hb
        have HMc0 := HM.out.cell 0
        have HMc1 := HM.out.cell 1
        have HMlt := HM.out.lt
        simp at HMc0 HMc1
        have HPL := Lib.hid (place_any A c m.next id m.nodes u2 F (fun b hb => Nat.lt_of_lt_of_le (hF b hb) HB_w.out.size) (HH.out.keep ENode.stays (Keep.below HB_w.out hF) (fun _ h => h)) HS.out hid (by rw [HN.out]; omega))
        rw [HAT.out, HN.out] at HPL
        go_wp2_with fail
        refine (HPL.out).mono ?_
        rintro _ u3 ⟨rfl, hb⟩
        replace HB_w : Hid (Below w.heap.size w u3) := Lib.hid (HB_w.out.trans (hb.mono HB_w.out.size))
        replace HM := Lib.hid (HM.out.below hb HM.out.lt)
        replace HR := Lib.hid (HR.out.below hb HR.out.lt)
        clear hb
        clear HPL HMc0 HMc1 HMlt
        have g4 : decide ((-1 : Int) < 0) = true := by decide
        have E := Lib.hid (show EE = 20 from HEE.out.symm.trans (moveE_node HCM.out (fun _ => HW.out) (.inl HLT.out)))
        have t0 := HR.out.frozen 0; have t1 := HR.out.frozen 1
        have r0 := HR.out.cell 0; have r1 := HR.out.cell 1
        have hrlt := HR.out.lt
        simp at r0 r1
        go_wp2_with fail
        have hyS := (HR.out.set_ 0 (.int .i64 0)).set_ 1 (.slice none 0 0)
        have f0 := hyS.cell 0; have f1 := hyS.cell 1
        simp at f0 f1
        have HBW := Lib.hid ((HB_w.out.setCell (p := ⟨w.heap.size + 1, 0, none⟩) (by show w.heap.size ≤ w.heap.size + 1; omega) (.int .i64 0)).setCell (p := ⟨w.heap.size + 1, 1, none⟩) (by show w.heap.size ≤ w.heap.size + 1; omega) (.slice none 0 0))
        exact bodyPost_ret (v := .tuple #[.agg #[.int .i64 0, .slice none 0 0], .int .i64 (20)]) (by simp [results, Try.results47, go_sem, f0, f1]) rfl ⟨⟨_, rfl, Or.inl ⟨by rw [E.out]; decide, by rw [E.out]⟩⟩, HBW.out⟩
  have HAT := Lib.hid hj2
  have HLT : Hid (¬ atI m.nodes id < 0) := Lib.hid (by rw [hj2]; omega)
  have g4 : decide ((j : Int) < 0) = false := decide_eq_false (by omega)
  obtain ⟨x, hx⟩ : ∃ x, m.nodes[j] = x := ⟨_, rfl⟩
  have HX : Hid (x ∈ m.nodes ∧ x.id = id) := Lib.hid ⟨by rw [← hx]; exact List.getElem_mem hj, by rw [← hx]; exact hj1⟩
  have HXO : Hid (nodeOf m id = x) := Lib.hid (by rw [← HX.out.2]; exact HCM.out.tree.nodeOf HX.out.1)
  clear hj1 hj2 hx
  by_cases hp0 : p = 0
  · subst hp0
    have HWD : Hid ((0 : Int) ≠ 0 → wordA role = true) := Lib.hid (fun h => absurd rfl h)
    have HNN : Hid (¬ (atI m.nodes id < 0 ∨ ((0 : Int) ≠ 0 ∧ atI m.nodes 0 < 0))) := Lib.hid (by rintro (h | h); exact HLT.out h; exact h.1 rfl)
    go_enter Try.func47, Try.ntmps47
    go_wp2_with fail
    (try rw [HU0.out])
    refine HC2.out.mono ?_
    rintro _ u1 ⟨rfl, hb⟩
    replace HB_w : Hid (Below w.heap.size w u1) := Lib.hid (HB_w.out.trans (hb.mono HB_w.out.size))
    replace HM := Lib.hid (HM.out.below hb HM.out.lt)
    replace HR := Lib.hid (HR.out.below hb HR.out.lt)
    clear hb HU0 HC2
    have g1 : ((0 : Int) != 0) = false := by decide
    have HMc0 := HM.out.cell 0
    have HMc1 := HM.out.cell 1
    have HMlt := HM.out.lt
    simp at HMc0 HMc1
    have HPL := Lib.hid (place_any A c m.next id m.nodes u1 F (fun b hb => Nat.lt_of_lt_of_le (hF b hb) HB_w.out.size) (HH.out.keep ENode.stays (Keep.below HB_w.out hF) (fun _ h => h)) HS.out hid (by rw [HN.out]; omega))
    rw [HAT.out, HN.out] at HPL
    go_wp2_with fail
    refine (HPL.out).mono ?_
    rintro _ u2 ⟨rfl, hb⟩
    replace HB_w : Hid (Below w.heap.size w u2) := Lib.hid (HB_w.out.trans (hb.mono HB_w.out.size))
    replace HM := Lib.hid (HM.out.below hb HM.out.lt)
    replace HR := Lib.hid (HR.out.below hb HR.out.lt)
    clear hb
    clear HPL HMc0 HMc1 HMlt
    have hne : (0 : Int) ≠ id := by have := id_pos HCM.out.1.2 HX.out.1; rw [HX.out.2] at this; omega
    have g0 : ((0 : Int) == id) = false := beq_eq_false_iff_ne.2 hne
    have g1 : ((0 : Int) != 0) = false := by decide
    have hno0 : (belowL m id).contains 0 = false := by
      cases hcc : (belowL m id).contains 0 with
      | false => rfl
      | true =>
        have h0 := List.contains_iff_mem.1 hcc
        rw [← HX.out.2] at h0
        obtain ⟨y, hy, e⟩ := HCM.out.tree.below_node x HX.out.1 0 h0
        have := id_pos HCM.out.1.2 hy
        omega
    have HNL : Hid (¬ ((0 : Int) = id ∨ (0 : Int) ∈ belowL m id)) := Lib.hid (by
      rintro (h | h)
      · exact hne h
      · rw [List.contains_iff_mem.2 h] at hno0; cases hno0)
    have HMc0 := HM.out.cell 0
    have HMc1 := HM.out.cell 1
    have HMlt := HM.out.lt
    simp at HMc0 HMc1
    have HUD := Lib.hid (under_any A c m u2 F (fun b hb => Nat.lt_of_lt_of_le (hF b hb) HB_w.out.size) (HH.out.keep ENode.stays (Keep.below HB_w.out hF) (fun _ h => h)) HCM.out.tree HS.out HRK.out (by rw [HN.out]; omega) x HX.out.1)
    rw [HN.out, HX.out.2] at HUD
    go_wp2_with fail
    refine HUD.out.mono ?_
    rintro _ ux ⟨vl, rfl, hown, hb⟩
    replace HB_w : Hid (Below w.heap.size w ux) := Lib.hid (HB_w.out.trans (hb.mono HB_w.out.size))
    replace HM := Lib.hid (HM.out.below hb HM.out.lt)
    replace HR := Lib.hid (HR.out.below hb HR.out.lt)
    clear hb HUD HMc0 HMc1 HMlt
    have hlb : (belowL m id).length ≤ 4096 := by have := HCM.out.tree.below_len HX.out.1; rw [HX.out.2, HN.out] at this; omega
    obtain ⟨Al, cl, rfl⟩ := hown.shape
    have HCT := Lib.hid (contains_any Al cl (belowL m id) (0) ux (fun b => b < ux.heap.size) (by
      obtain ⟨A', c', e, _, _, h3⟩ := hown.isRow (F := fun b => b < ux.heap.size) (fun b _ h => h)
      injection e with e1; subst e1; exact h3) (by omega))
    rw [hno0] at HCT
    clear hown hlb
    go_wp2_with fail
    refine (HCT.out).mono ?_
    rintro _ uy ⟨rfl, hb⟩
    replace HB_w : Hid (Below w.heap.size w uy) := Lib.hid (HB_w.out.trans (hb.mono HB_w.out.size))
    replace HM := Lib.hid (HM.out.below hb HM.out.lt)
    replace HR := Lib.hid (HR.out.below hb HR.out.lt)
    clear hb
    clear HCT hno0
    have HMc0 := HM.out.cell 0
    have HMc1 := HM.out.cell 1
    have HMlt := HM.out.lt
    simp at HMc0 HMc1
    have HTW := Lib.hid (twinA_any A c m uy F (fun b hb => Nat.lt_of_lt_of_le (hF b hb) HB_w.out.size) (HH.out.keep ENode.stays (Keep.below HB_w.out hF) (fun _ h => h)) HZ'.out (by rw [HN.out]; omega))
    rw [HN.out] at HTW
    go_wp2_with fail
    refine HTW.out.mono ?_
    rintro _ ut ⟨vt, rfl, l, hown, hlm, hb⟩
    have HBASE : Hid (w.heap.size + 1 < uy.heap.size) := Lib.hid HR.out.lt
    replace HB_w : Hid (Below w.heap.size w ut) := Lib.hid (HB_w.out.trans (hb.mono HB_w.out.size))
    replace HM := Lib.hid (HM.out.below hb HM.out.lt)
    replace HR := Lib.hid (HR.out.below hb HR.out.lt)
    have hll : l.length = n := by rw [← HN.out, ← hlm, List.length_map]
    obtain ⟨At, ct, rfl⟩ := own_shape hown.row
    rw [hll] at hown ⊢
    have HO := Lib.hid hown; have HLM := Lib.hid hlm; have HBT : Hid (uy.heap.size ≤ ut.heap.size) := Lib.hid hb.size
    clear hb hown hlm HTW HMc0 HMc1 HMlt
    obtain ⟨u1, hu⟩ : ∃ u : World, ut.alloc (.cells #[.int .i64 m.next, .slice At n ct] 24) = u := ⟨_, rfl⟩
    have HBU : Below ut.heap.size ut u1 := by rw [← hu]; exact (Below.refl _ _).alloc (Nat.le_refl _) _
    have HP : Hid (Blk u1 ut.heap.size 24 #[.int .i64 m.next, .slice At n ct]) := Lib.hid (by rw [← hu]; exact Blk.new _ _ _)
    have HUE := Lib.hid hu
    clear hu
    replace HB_w : Hid (Below w.heap.size w u1) := Lib.hid (HB_w.out.trans (HBU.mono HB_w.out.size))
    replace HM := Lib.hid (HM.out.below HBU HM.out.lt)
    replace HR := Lib.hid (HR.out.below HBU HR.out.lt)
    clear HBU
    replace HO := Lib.hid (HO.out.below (show Below ut.heap.size ut u1 from by rw [← HUE.out]; exact (Below.refl ut.heap.size ut).alloc (Nat.le_refl _) _))
    have HPB : Hid (uy.heap.size ≤ ut.heap.size) := HBT
    go_upto_region 10 with fail
    (try rw [HUE.out])
    (try clear HUE)
    have HMc0 := HM.out.cell 0
    have HMc1 := HM.out.cell 1
    have HMlt := HM.out.lt
    simp at HMc0 HMc1
    have HHT := Lib.hid (height_any A c m u1 F (fun b hb => Nat.lt_of_lt_of_le (hF b hb) HB_w.out.size) (HH.out.keep ENode.stays (Keep.below HB_w.out hF) (fun _ h => h)) HCM.out HRPP.out HRK.out x HX.out.1)
    rw [HN.out, HX.out.2] at HHT
    go_wp2_with fail
    refine HHT.out.mono ?_
    rintro _ uh ⟨rfl, hb⟩
    replace HO := Lib.hid (HO.out.below hb)
    replace HB_w : Hid (Below w.heap.size w uh) := Lib.hid (HB_w.out.trans (hb.mono HB_w.out.size))
    replace HM := Lib.hid (HM.out.below hb HM.out.lt)
    replace HR := Lib.hid (HR.out.below hb HR.out.lt)
    replace HP := Lib.hid (HP.out.below hb HP.out.lt)
    clear hb HHT HMc0 HMc1 HMlt
    obtain ⟨hg, hhg⟩ : ∃ z, heightN m id = z := ⟨_, rfl⟩
    have HHG := Lib.hid hhg
    have hg64 : 1 ≤ hg ∧ hg ≤ 64 := by have := height_le HCM.out HX.out.1; rw [HX.out.2, hhg] at this; exact this
    rw [hhg]
    clear hhg
    have HPc0 := HP.out.cell 0
    have HPc1 := HP.out.cell 1
    have HPlt := HP.out.lt
    simp at HPc0 HPc1
    have HUN := Lib.hid (unhang_any m.next (.slice At n ct) l uh uy.heap.size (OB uy.heap.size ut.heap.size) (HO.out.ob HP.out) HO.out (by have := HP.out.lt; have := HPB.out; omega) (by rw [HLM.out]; exact HS.out) (by rw [HO.out.len_map HLM.out, HN.out]; omega) (by rw [HLM.out]; exact check_kids4 HCM.out) x (by rw [HLM.out]; exact HX.out.1) (by rw [HLM.out]; exact check_parent HCM.out HX.out.1))
    rw [HLM.out, HX.out.2] at HUN
    go_wp2_with fail
    refine HUN.out.mono ?_
    rintro _ un ⟨rfl, l1, hown, hlm, hk⟩
    have HO1 := Lib.hid hown
    have HL1 : Hid (l1.map LN.n = (mu m x).nodes) := Lib.hid (by rw [hlm]; show _ = unhangN m.nodes x.parent x.id; rw [HX.out.2])
    have hno1 : ¬ OB uy.heap.size ut.heap.size w.heap.size := fun h => by have := h.1; have := HBASE.out; omega
    have hno2 : ¬ OB uy.heap.size ut.heap.size (w.heap.size + 1) := fun h => by have := h.1; have := HBASE.out; omega
    have hno3 : ¬ OB uy.heap.size ut.heap.size ut.heap.size := fun h => h.2 rfl
    replace HM := Lib.hid (hk.blk HM.out hno1)
    replace HR := Lib.hid (hk.blk HR.out hno2)
    replace HP := Lib.hid (hk.blk HP.out hno3)
    replace HB_w : Hid (Below w.heap.size w un) := Lib.hid (HB_w.out.trans (hk.toBelow HB_w.out.size (fun b h => by have := h.1; have := HBASE.out; omega)))
    clear hown hlm hk HUN HPc0 HPc1 HPlt
    obtain ⟨ns1, hns1⟩ : ∃ z, mu m x = z := ⟨_, rfl⟩
    have HMU := Lib.hid hns1
    have HMN : Hid (ns1.nodes.length = n) := Lib.hid (by rw [← hns1, mu_len, HN.out])
    have HMX : Hid (ns1.next = m.next) := Lib.hid (by rw [← hns1]; rfl)
    have HS1 : Hid (SrtB ns1.nodes) := Lib.hid (by rw [← hns1]; exact mu_srt HCM.out)
    have HID1 : Hid (∀ i, IdAt ns1 i) := Lib.hid (by rw [← hns1]; exact mu_ids HCM.out)
    have HFM1 : Hid (Fam ns1) := Lib.hid (by rw [← hns1]; exact mu_fam HCM.out)
    have HCL1 : Hid (Closed ns1.nodes) := Lib.hid (by rw [← hns1]; exact mu_closed HCM.out)
    have HNK1 : Hid (∀ y ∈ ns1.nodes, x.id ∉ y.kids) := Lib.hid (by rw [← hns1]; exact mu_nokid HCM.out HX.out.1)
    have HK41 : Hid (∀ y ∈ ns1.nodes, y.kids.length ≤ 4096) := Lib.hid (by rw [← hns1]; exact mu_kids4 HCM.out)
    have HRK1 : Hid (∀ y ∈ ns1.nodes, ∀ k ∈ y.kids, InR k) := Lib.hid (by rw [← hns1]; exact mu_kidsR HRK.out)
    have HRP1 : Hid (∀ y ∈ ns1.nodes, InR y.parent) := Lib.hid (by rw [← hns1]; exact mu_parR HRPP.out)
    have HXN : Hid (∃ x1 ∈ ns1.nodes, x1.id = x.id) := Lib.hid (by rw [← hns1]; obtain ⟨y, hy, e, _⟩ := mu_node (x := x) HX.out.1; exact ⟨y, hy, e⟩)
    rw [hns1] at HL1
    have HROW : Hid (RowOf 7 ENode un (fun b => uy.heap.size ≤ b ∧ b < un.heap.size) At ns1.nodes) := Lib.hid (by rw [← HL1.out]; exact HO1.out.rowOf (fun b h1 h2 => ⟨h1, h2⟩))
    have HPc0 := HP.out.cell 0
    have HPc1 := HP.out.cell 1
    have HPlt := HP.out.lt
    simp at HPc0 HPc1
    obtain ⟨EG, hEG⟩ : ∃ z, rootE role a = z := ⟨_, rfl⟩
    have E : Hid (EE = EG) := Lib.hid (by
      rw [← HEE.out, moveE_goal HCM.out HWD.out HNN.out HNL.out, goalE_root, hEG])
    have HEG := Lib.hid hEG
    have HGO := Lib.hid (goalRoot_any m.next At n ct un role a hg)
    rw [hEG] at HGO
    clear hns1 hEG
    go_wp2_with fail
    refine HGO.out.mono ?_
    rintro _ ug ⟨rfl, hb⟩
    replace HO1 := Lib.hid (HO1.out.below hb)
    have hbug := hb.size
    replace HB_w : Hid (Below w.heap.size w ug) := Lib.hid (HB_w.out.trans (hb.mono HB_w.out.size))
    replace HM := Lib.hid (HM.out.below hb HM.out.lt)
    replace HR := Lib.hid (HR.out.below hb HR.out.lt)
    replace HP := Lib.hid (HP.out.below hb HP.out.lt)
    clear hb HGO HPc0 HPc1 HPlt HROW
    by_cases hEG0 : EG = 0
    rotate_left 1
    · have hEne : EG ≠ 0 := hEG0
      have hEG1 : (EG != 0) = true := by simp; exact hEG0
      clear hEG0
      have t0 := HR.out.frozen 0; have t1 := HR.out.frozen 1
      have r0 := HR.out.cell 0; have r1 := HR.out.cell 1
      have hrlt := HR.out.lt
      simp at r0 r1
      go_wp2_with fail
      have hyS := (HR.out.set_ 0 (.int .i64 0)).set_ 1 (.slice none 0 0)
      have f0 := hyS.cell 0; have f1 := hyS.cell 1
      simp at f0 f1
      have HBW := Lib.hid ((HB_w.out.setCell (p := ⟨w.heap.size + 1, 0, none⟩) (by show w.heap.size ≤ w.heap.size + 1; omega) (.int .i64 0)).setCell (p := ⟨w.heap.size + 1, 1, none⟩) (by show w.heap.size ≤ w.heap.size + 1; omega) (.slice none 0 0))
      exact bodyPost_ret (v := .tuple #[.agg #[.int .i64 0, .slice none 0 0], .int .i64 (EG)]) (by simp [results, Try.results47, go_sem, f0, f1]) rfl ⟨⟨_, rfl, Or.inl ⟨by rw [E.out]; exact hEne, by rw [E.out]⟩⟩, HBW.out⟩
    subst hEG0
    obtain ⟨x1, hx1, hx1i⟩ := HXN.out
    obtain ⟨ii, hii⟩ : ∃ z, iOf ns1 0 role a = z := ⟨_, rfl⟩
    have HPA : Hid (PlaceAt m.next ns1.nodes x1.id 0 role a ii) := Lib.hid (by
      rw [← hii, ← HMX.out]
      exact place_of (id := x1.id) (p := 0) HFM1.out HK41.out (by rw [hx1i, HX.out.2]; exact hne) (.inl rfl) (d := 0) (high := hg) ((goalE_root _ _ _ _ _).trans HEG.out))
    have HHA := Lib.hid (hang_any m.next (.slice At n ct) l1 ug uy.heap.size (OB uy.heap.size ut.heap.size) (HO1.out.ob HP.out) HO1.out (by have := HP.out.lt; have := HPB.out; omega) (by rw [HL1.out]; exact HS1.out) (by rw [HL1.out]; exact HRK1.out) (by rw [HO1.out.len_map HL1.out, HMN.out]; omega) (by rw [HL1.out]; exact HCL1.out) x1 (by rw [HL1.out]; exact hx1) (by rw [HL1.out, hx1i]; exact HNK1.out) 0 role a ha ii (by rw [HL1.out]; exact HPA.out))
    rw [HL1.out, hx1i, HX.out.2] at HHA
    have HII := Lib.hid hii
    clear hii hx1 hx1i HPA hne
    have HPc0 := HP.out.cell 0
    have HPc1 := HP.out.cell 1
    have HPlt := HP.out.lt
    simp at HPc0 HPc1
    have q0 : ((0 : Int) != 0) = false := by decide
    go_wp2_with fail
    refine HHA.out.mono ?_
    rintro _ uz ⟨rfl, l2, hown, hlm, hk⟩
    have hno2 : ¬ OB uy.heap.size ut.heap.size (w.heap.size + 1) := fun h => by have := h.1; have := HBASE.out; omega
    have hno3 : ¬ OB uy.heap.size ut.heap.size ut.heap.size := fun h => h.2 rfl
    replace HR := Lib.hid (hk.blk HR.out hno2)
    replace HP := Lib.hid (hk.blk HP.out hno3)
    replace HB_w : Hid (Below w.heap.size w uz) := Lib.hid (HB_w.out.trans (hk.toBelow HB_w.out.size (fun b h => by have := h.1; have := HBASE.out; omega)))
    have HFIN : Hid (l2.map LN.n = LL) := Lib.hid (by
      rw [hlm, ← HLL.out]
      unfold moveL
      rw [HXO.out, HMU.out, HII.out])
    have HO2 := Lib.hid hown
    clear hown hlm hk HHA HPc0 HPc1 HPlt HM
    have p0 := HP.out.cell 0; have p1 := HP.out.cell 1
    have hplt := HP.out.lt
    simp at p0 p1
    have t0 := HR.out.frozen 0; have t1 := HR.out.frozen 1
    have r0 := HR.out.cell 0; have r1 := HR.out.cell 1
    have hrlt := HR.out.lt
    simp at r0 r1
    go_wp2_with fail
    have hyS := (HR.out.set_ 0 (.int .i64 m.next)).set_ 1 (.slice At n ct)
    have f0 := hyS.cell 0; have f1 := hyS.cell 1
    simp at f0 f1
    have HBW := Lib.hid ((HB_w.out.setCell (p := ⟨w.heap.size + 1, 0, none⟩) (by show w.heap.size ≤ w.heap.size + 1; omega) (.int .i64 m.next)).setCell (p := ⟨w.heap.size + 1, 1, none⟩) (by show w.heap.size ≤ w.heap.size + 1; omega) (.slice At n ct))
    refine bodyPost_ret (v := .tuple #[.agg #[.int .i64 m.next, .slice At n ct], .int .i64 0]) (by simp [results, Try.results47, go_sem, f0, f1]) rfl ⟨⟨_, rfl, Or.inr ⟨E.out, _, _, rfl, ?_, HFIN.out⟩⟩, HBW.out⟩
    refine (HO2.out.keep (w' := (uz.setCell ⟨w.heap.size + 1, 0, none⟩ (.int .i64 m.next)).setCell ⟨w.heap.size + 1, 1, none⟩ (.slice At n ct)) (fun b h1 _ => ?_)).weaken (by have := HBASE.out; omega)
    have := HBASE.out
    exact (Below.heap_setCell _ _ _ _ (by show b ≠ w.heap.size + 1; omega)).trans (Below.heap_setCell _ _ _ _ (by show b ≠ w.heap.size + 1; omega))
  · have g1 : (p != 0) = true := by simp; exact hp0
    rcases hwc : wordA role with _ | _
    · have E := Lib.hid (show EE = 2 from HEE.out.symm.trans (moveE_word HCM.out hp0 hwc))
      have HW := Lib.hid hwc
      clear hwc
      go_enter Try.func47, Try.ntmps47
      go_wp2_with fail
      (try rw [HU0.out])
      refine HC2.out.mono ?_
      rintro _ u1 ⟨rfl, hb⟩
      replace HB_w : Hid (Below w.heap.size w u1) := Lib.hid (HB_w.out.trans (hb.mono HB_w.out.size))
      replace HM := Lib.hid (HM.out.below hb HM.out.lt)
      replace HR := Lib.hid (HR.out.below hb HR.out.lt)
      clear hb HU0 HC2
      go_wp2_with fail
      refine (aword_is hns HW.out u1).mono ?_
      rintro _ u2 ⟨rfl, hb⟩
      replace HB_w : Hid (Below w.heap.size w u2) := Lib.hid (HB_w.out.trans (hb.mono HB_w.out.size))
      replace HM := Lib.hid (HM.out.below hb HM.out.lt)
      replace HR := Lib.hid (HR.out.below hb HR.out.lt)
      clear hb
      have t0 := HR.out.frozen 0; have t1 := HR.out.frozen 1
      have r0 := HR.out.cell 0; have r1 := HR.out.cell 1
      have hrlt := HR.out.lt
      simp at r0 r1
      go_wp2_with fail
      have hyS := (HR.out.set_ 0 (.int .i64 0)).set_ 1 (.slice none 0 0)
      have f0 := hyS.cell 0; have f1 := hyS.cell 1
      simp at f0 f1
      have HBW := Lib.hid ((HB_w.out.setCell (p := ⟨w.heap.size + 1, 0, none⟩) (by show w.heap.size ≤ w.heap.size + 1; omega) (.int .i64 0)).setCell (p := ⟨w.heap.size + 1, 1, none⟩) (by show w.heap.size ≤ w.heap.size + 1; omega) (.slice none 0 0))
      exact bodyPost_ret (v := .tuple #[.agg #[.int .i64 0, .slice none 0 0], .int .i64 (2)]) (by simp [results, Try.results47, go_sem, f0, f1]) rfl ⟨⟨_, rfl, Or.inl ⟨by rw [E.out]; decide, by rw [E.out]⟩⟩, HBW.out⟩
    · have HW := Lib.hid hwc
      clear hwc
      have HWD : Hid (p ≠ 0 → wordA role = true) := Lib.hid (fun _ => HW.out)
      rcases atI_cases m.nodes p with ⟨jp, hjp, hjp1, hjp2⟩ | ⟨hjp1, hjp2⟩
      rotate_left 1
      · have HATP := Lib.hid hjp2
        have HLTP : Hid (atI m.nodes p < 0) := Lib.hid (by rw [hjp2]; omega)
        clear hjp1 hjp2
        go_enter Try.func47, Try.ntmps47
        go_wp2_with fail
        (try rw [HU0.out])
        refine HC2.out.mono ?_
        rintro _ u1 ⟨rfl, hb⟩
        replace HB_w : Hid (Below w.heap.size w u1) := Lib.hid (HB_w.out.trans (hb.mono HB_w.out.size))
        replace HM := Lib.hid (HM.out.below hb HM.out.lt)
        replace HR := Lib.hid (HR.out.below hb HR.out.lt)
        clear hb HU0 HC2
        go_wp2_with fail
        refine (aword_is hns HW.out u1).mono ?_
        rintro _ u2 ⟨rfl, hb⟩
        replace HB_w : Hid (Below w.heap.size w u2) := Lib.hid (HB_w.out.trans (hb.mono HB_w.out.size))
        replace HM := Lib.hid (HM.out.below hb HM.out.lt)
        replace HR := Lib.hid (HR.out.below hb HR.out.lt)
        clear hb
        have HMc0 := HM.out.cell 0
        have HMc1 := HM.out.cell 1
        have HMlt := HM.out.lt
        simp at HMc0 HMc1
        have HPL := Lib.hid (place_any A c m.next id m.nodes u2 F (fun b hb => Nat.lt_of_lt_of_le (hF b hb) HB_w.out.size) (HH.out.keep ENode.stays (Keep.below HB_w.out hF) (fun _ h => h)) HS.out hid (by rw [HN.out]; omega))
        rw [HAT.out, HN.out] at HPL
        go_wp2_with fail
        refine (HPL.out).mono ?_
        rintro _ u3 ⟨rfl, hb⟩
        replace HB_w : Hid (Below w.heap.size w u3) := Lib.hid (HB_w.out.trans (hb.mono HB_w.out.size))
        replace HM := Lib.hid (HM.out.below hb HM.out.lt)
        replace HR := Lib.hid (HR.out.below hb HR.out.lt)
        clear hb
        clear HPL HMc0 HMc1 HMlt
        have HMc0 := HM.out.cell 0
        have HMc1 := HM.out.cell 1
        have HMlt := HM.out.lt
        simp at HMc0 HMc1
        have HPL := Lib.hid (place_any A c m.next p m.nodes u3 F (fun b hb => Nat.lt_of_lt_of_le (hF b hb) HB_w.out.size) (HH.out.keep ENode.stays (Keep.below HB_w.out hF) (fun _ h => h)) HS.out hpi (by rw [HN.out]; omega))
        rw [HATP.out, HN.out] at HPL
        go_wp2_with fail
        refine (HPL.out).mono ?_
        rintro _ u4 ⟨rfl, hb⟩
        replace HB_w : Hid (Below w.heap.size w u4) := Lib.hid (HB_w.out.trans (hb.mono HB_w.out.size))
        replace HM := Lib.hid (HM.out.below hb HM.out.lt)
        replace HR := Lib.hid (HR.out.below hb HR.out.lt)
        clear hb
        clear HPL HMc0 HMc1 HMlt
        have g5 : decide ((-1 : Int) < 0) = true := by decide
        have E := Lib.hid (show EE = 20 from HEE.out.symm.trans (moveE_node HCM.out HWD.out (.inr ⟨hp0, HLTP.out⟩)))
        have t0 := HR.out.frozen 0; have t1 := HR.out.frozen 1
        have r0 := HR.out.cell 0; have r1 := HR.out.cell 1
        have hrlt := HR.out.lt
        simp at r0 r1
        go_wp2_with fail
        have hyS := (HR.out.set_ 0 (.int .i64 0)).set_ 1 (.slice none 0 0)
        have f0 := hyS.cell 0; have f1 := hyS.cell 1
        simp at f0 f1
        have HBW := Lib.hid ((HB_w.out.setCell (p := ⟨w.heap.size + 1, 0, none⟩) (by show w.heap.size ≤ w.heap.size + 1; omega) (.int .i64 0)).setCell (p := ⟨w.heap.size + 1, 1, none⟩) (by show w.heap.size ≤ w.heap.size + 1; omega) (.slice none 0 0))
        exact bodyPost_ret (v := .tuple #[.agg #[.int .i64 0, .slice none 0 0], .int .i64 (20)]) (by simp [results, Try.results47, go_sem, f0, f1]) rfl ⟨⟨_, rfl, Or.inl ⟨by rw [E.out]; decide, by rw [E.out]⟩⟩, HBW.out⟩
      have HATP := Lib.hid hjp2
      have HNN : Hid (¬ (atI m.nodes id < 0 ∨ (p ≠ 0 ∧ atI m.nodes p < 0))) := Lib.hid (by
        rintro (h | h)
        · exact HLT.out h
        · have := h.2; rw [hjp2] at this; omega)
      have g5 : decide ((jp : Int) < 0) = false := decide_eq_false (by omega)
      obtain ⟨y, hy⟩ : ∃ y, m.nodes[jp] = y := ⟨_, rfl⟩
      have HY : Hid (y ∈ m.nodes ∧ y.id = p) := Lib.hid ⟨by rw [← hy]; exact List.getElem_mem hjp, by rw [← hy]; exact hjp1⟩
      clear hjp1 hjp2 hy
      go_enter Try.func47, Try.ntmps47
      go_wp2_with fail
      (try rw [HU0.out])
      refine HC2.out.mono ?_
      rintro _ u1 ⟨rfl, hb⟩
      replace HB_w : Hid (Below w.heap.size w u1) := Lib.hid (HB_w.out.trans (hb.mono HB_w.out.size))
      replace HM := Lib.hid (HM.out.below hb HM.out.lt)
      replace HR := Lib.hid (HR.out.below hb HR.out.lt)
      clear hb HU0 HC2
      go_wp2_with fail
      refine (aword_is hns HW.out u1).mono ?_
      rintro _ u2 ⟨rfl, hb⟩
      replace HB_w : Hid (Below w.heap.size w u2) := Lib.hid (HB_w.out.trans (hb.mono HB_w.out.size))
      replace HM := Lib.hid (HM.out.below hb HM.out.lt)
      replace HR := Lib.hid (HR.out.below hb HR.out.lt)
      clear hb
      have HMc0 := HM.out.cell 0
      have HMc1 := HM.out.cell 1
      have HMlt := HM.out.lt
      simp at HMc0 HMc1
      have HPL := Lib.hid (place_any A c m.next id m.nodes u2 F (fun b hb => Nat.lt_of_lt_of_le (hF b hb) HB_w.out.size) (HH.out.keep ENode.stays (Keep.below HB_w.out hF) (fun _ h => h)) HS.out hid (by rw [HN.out]; omega))
      rw [HAT.out, HN.out] at HPL
      go_wp2_with fail
      refine (HPL.out).mono ?_
      rintro _ u3 ⟨rfl, hb⟩
      replace HB_w : Hid (Below w.heap.size w u3) := Lib.hid (HB_w.out.trans (hb.mono HB_w.out.size))
      replace HM := Lib.hid (HM.out.below hb HM.out.lt)
      replace HR := Lib.hid (HR.out.below hb HR.out.lt)
      clear hb
      clear HPL HMc0 HMc1 HMlt
      have HMc0 := HM.out.cell 0
      have HMc1 := HM.out.cell 1
      have HMlt := HM.out.lt
      simp at HMc0 HMc1
      have HPL := Lib.hid (place_any A c m.next p m.nodes u3 F (fun b hb => Nat.lt_of_lt_of_le (hF b hb) HB_w.out.size) (HH.out.keep ENode.stays (Keep.below HB_w.out hF) (fun _ h => h)) HS.out hpi (by rw [HN.out]; omega))
      rw [HATP.out, HN.out] at HPL
      go_wp2_with fail
      refine (HPL.out).mono ?_
      rintro _ u4 ⟨rfl, hb⟩
      replace HB_w : Hid (Below w.heap.size w u4) := Lib.hid (HB_w.out.trans (hb.mono HB_w.out.size))
      replace HM := Lib.hid (HM.out.below hb HM.out.lt)
      replace HR := Lib.hid (HR.out.below hb HR.out.lt)
      clear hb
      clear HPL HMc0 HMc1 HMlt
      by_cases hne0 : p = id
      · have E := Lib.hid (show EE = 21 from HEE.out.symm.trans (moveE_loop HCM.out HWD.out HNN.out (.inl hne0)))
        have g6 : (p == id) = true := by simp; exact hne0
        clear hne0
        have t0 := HR.out.frozen 0; have t1 := HR.out.frozen 1
        have r0 := HR.out.cell 0; have r1 := HR.out.cell 1
        have hrlt := HR.out.lt
        simp at r0 r1
        go_wp2_with fail
        have hyS := (HR.out.set_ 0 (.int .i64 0)).set_ 1 (.slice none 0 0)
        have f0 := hyS.cell 0; have f1 := hyS.cell 1
        simp at f0 f1
        have HBW := Lib.hid ((HB_w.out.setCell (p := ⟨w.heap.size + 1, 0, none⟩) (by show w.heap.size ≤ w.heap.size + 1; omega) (.int .i64 0)).setCell (p := ⟨w.heap.size + 1, 1, none⟩) (by show w.heap.size ≤ w.heap.size + 1; omega) (.slice none 0 0))
        exact bodyPost_ret (v := .tuple #[.agg #[.int .i64 0, .slice none 0 0], .int .i64 (21)]) (by simp [results, Try.results47, go_sem, f0, f1]) rfl ⟨⟨_, rfl, Or.inl ⟨by rw [E.out]; decide, by rw [E.out]⟩⟩, HBW.out⟩
      · have hne : p ≠ id := hne0
        have g6 : (p == id) = false := beq_eq_false_iff_ne.2 hne
        clear hne0
        cases hcc : (belowL m id).contains p
        rotate_left 1
        · have E := Lib.hid (show EE = 21 from HEE.out.symm.trans (moveE_loop HCM.out HWD.out HNN.out (.inr (List.contains_iff_mem.1 hcc))))
          have HMc0 := HM.out.cell 0
          have HMc1 := HM.out.cell 1
          have HMlt := HM.out.lt
          simp at HMc0 HMc1
          have HUD := Lib.hid (under_any A c m u4 F (fun b hb => Nat.lt_of_lt_of_le (hF b hb) HB_w.out.size) (HH.out.keep ENode.stays (Keep.below HB_w.out hF) (fun _ h => h)) HCM.out.tree HS.out HRK.out (by rw [HN.out]; omega) x HX.out.1)
          rw [HN.out, HX.out.2] at HUD
          go_wp2_with fail
          refine HUD.out.mono ?_
          rintro _ ux ⟨vl, rfl, hown, hb⟩
          replace HB_w : Hid (Below w.heap.size w ux) := Lib.hid (HB_w.out.trans (hb.mono HB_w.out.size))
          replace HM := Lib.hid (HM.out.below hb HM.out.lt)
          replace HR := Lib.hid (HR.out.below hb HR.out.lt)
          clear hb HUD HMc0 HMc1 HMlt
          have hlb : (belowL m id).length ≤ 4096 := by have := HCM.out.tree.below_len HX.out.1; rw [HX.out.2, HN.out] at this; omega
          obtain ⟨Al, cl, rfl⟩ := hown.shape
          have HCT := Lib.hid (contains_any Al cl (belowL m id) (p) ux (fun b => b < ux.heap.size) (by
            obtain ⟨A', c', e, _, _, h3⟩ := hown.isRow (F := fun b => b < ux.heap.size) (fun b _ h => h)
            injection e with e1; subst e1; exact h3) (by omega))
          rw [hcc] at HCT
          clear hown hlb
          go_wp2_with fail
          refine (HCT.out).mono ?_
          rintro _ uy ⟨rfl, hb⟩
          replace HB_w : Hid (Below w.heap.size w uy) := Lib.hid (HB_w.out.trans (hb.mono HB_w.out.size))
          replace HM := Lib.hid (HM.out.below hb HM.out.lt)
          replace HR := Lib.hid (HR.out.below hb HR.out.lt)
          clear hb
          clear HCT hcc
          have t0 := HR.out.frozen 0; have t1 := HR.out.frozen 1
          have r0 := HR.out.cell 0; have r1 := HR.out.cell 1
          have hrlt := HR.out.lt
          simp at r0 r1
          go_wp2_with fail
          have hyS := (HR.out.set_ 0 (.int .i64 0)).set_ 1 (.slice none 0 0)
          have f0 := hyS.cell 0; have f1 := hyS.cell 1
          simp at f0 f1
          have HBW := Lib.hid ((HB_w.out.setCell (p := ⟨w.heap.size + 1, 0, none⟩) (by show w.heap.size ≤ w.heap.size + 1; omega) (.int .i64 0)).setCell (p := ⟨w.heap.size + 1, 1, none⟩) (by show w.heap.size ≤ w.heap.size + 1; omega) (.slice none 0 0))
          exact bodyPost_ret (v := .tuple #[.agg #[.int .i64 0, .slice none 0 0], .int .i64 (21)]) (by simp [results, Try.results47, go_sem, f0, f1]) rfl ⟨⟨_, rfl, Or.inl ⟨by rw [E.out]; decide, by rw [E.out]⟩⟩, HBW.out⟩
        · have HNL : Hid (¬ (p = id ∨ p ∈ belowL m id)) := Lib.hid (by
            rintro (h | h)
            · exact hne h
            · rw [List.contains_iff_mem.2 h] at hcc; cases hcc)
          have HMc0 := HM.out.cell 0
          have HMc1 := HM.out.cell 1
          have HMlt := HM.out.lt
          simp at HMc0 HMc1
          have HUD := Lib.hid (under_any A c m u4 F (fun b hb => Nat.lt_of_lt_of_le (hF b hb) HB_w.out.size) (HH.out.keep ENode.stays (Keep.below HB_w.out hF) (fun _ h => h)) HCM.out.tree HS.out HRK.out (by rw [HN.out]; omega) x HX.out.1)
          rw [HN.out, HX.out.2] at HUD
          go_wp2_with fail
          refine HUD.out.mono ?_
          rintro _ ux ⟨vl, rfl, hown, hb⟩
          replace HB_w : Hid (Below w.heap.size w ux) := Lib.hid (HB_w.out.trans (hb.mono HB_w.out.size))
          replace HM := Lib.hid (HM.out.below hb HM.out.lt)
          replace HR := Lib.hid (HR.out.below hb HR.out.lt)
          clear hb HUD HMc0 HMc1 HMlt
          have hlb : (belowL m id).length ≤ 4096 := by have := HCM.out.tree.below_len HX.out.1; rw [HX.out.2, HN.out] at this; omega
          obtain ⟨Al, cl, rfl⟩ := hown.shape
          have HCT := Lib.hid (contains_any Al cl (belowL m id) (p) ux (fun b => b < ux.heap.size) (by
            obtain ⟨A', c', e, _, _, h3⟩ := hown.isRow (F := fun b => b < ux.heap.size) (fun b _ h => h)
            injection e with e1; subst e1; exact h3) (by omega))
          rw [hcc] at HCT
          clear hown hlb
          go_wp2_with fail
          refine (HCT.out).mono ?_
          rintro _ uy ⟨rfl, hb⟩
          replace HB_w : Hid (Below w.heap.size w uy) := Lib.hid (HB_w.out.trans (hb.mono HB_w.out.size))
          replace HM := Lib.hid (HM.out.below hb HM.out.lt)
          replace HR := Lib.hid (HR.out.below hb HR.out.lt)
          clear hb
          clear HCT hcc
          have HMc0 := HM.out.cell 0
          have HMc1 := HM.out.cell 1
          have HMlt := HM.out.lt
          simp at HMc0 HMc1
          have HTW := Lib.hid (twinA_any A c m uy F (fun b hb => Nat.lt_of_lt_of_le (hF b hb) HB_w.out.size) (HH.out.keep ENode.stays (Keep.below HB_w.out hF) (fun _ h => h)) HZ'.out (by rw [HN.out]; omega))
          rw [HN.out] at HTW
          go_wp2_with fail
          refine HTW.out.mono ?_
          rintro _ ut ⟨vt, rfl, l, hown, hlm, hb⟩
          have HBASE : Hid (w.heap.size + 1 < uy.heap.size) := Lib.hid HR.out.lt
          replace HB_w : Hid (Below w.heap.size w ut) := Lib.hid (HB_w.out.trans (hb.mono HB_w.out.size))
          replace HM := Lib.hid (HM.out.below hb HM.out.lt)
          replace HR := Lib.hid (HR.out.below hb HR.out.lt)
          have hll : l.length = n := by rw [← HN.out, ← hlm, List.length_map]
          obtain ⟨At, ct, rfl⟩ := own_shape hown.row
          rw [hll] at hown ⊢
          have HO := Lib.hid hown; have HLM := Lib.hid hlm; have HBT : Hid (uy.heap.size ≤ ut.heap.size) := Lib.hid hb.size
          clear hb hown hlm HTW HMc0 HMc1 HMlt
          obtain ⟨u1, hu⟩ : ∃ u : World, ut.alloc (.cells #[.int .i64 m.next, .slice At n ct] 24) = u := ⟨_, rfl⟩
          have HBU : Below ut.heap.size ut u1 := by rw [← hu]; exact (Below.refl _ _).alloc (Nat.le_refl _) _
          have HP : Hid (Blk u1 ut.heap.size 24 #[.int .i64 m.next, .slice At n ct]) := Lib.hid (by rw [← hu]; exact Blk.new _ _ _)
          have HUE := Lib.hid hu
          clear hu
          replace HB_w : Hid (Below w.heap.size w u1) := Lib.hid (HB_w.out.trans (HBU.mono HB_w.out.size))
          replace HM := Lib.hid (HM.out.below HBU HM.out.lt)
          replace HR := Lib.hid (HR.out.below HBU HR.out.lt)
          clear HBU
          replace HO := Lib.hid (HO.out.below (show Below ut.heap.size ut u1 from by rw [← HUE.out]; exact (Below.refl ut.heap.size ut).alloc (Nat.le_refl _) _))
          have HPB : Hid (uy.heap.size ≤ ut.heap.size) := HBT
          go_upto_region 10 with fail
          (try rw [HUE.out])
          (try clear HUE)
          have HMc0 := HM.out.cell 0
          have HMc1 := HM.out.cell 1
          have HMlt := HM.out.lt
          simp at HMc0 HMc1
          have HHT := Lib.hid (height_any A c m u1 F (fun b hb => Nat.lt_of_lt_of_le (hF b hb) HB_w.out.size) (HH.out.keep ENode.stays (Keep.below HB_w.out hF) (fun _ h => h)) HCM.out HRPP.out HRK.out x HX.out.1)
          rw [HN.out, HX.out.2] at HHT
          go_wp2_with fail
          refine HHT.out.mono ?_
          rintro _ uh ⟨rfl, hb⟩
          replace HO := Lib.hid (HO.out.below hb)
          replace HB_w : Hid (Below w.heap.size w uh) := Lib.hid (HB_w.out.trans (hb.mono HB_w.out.size))
          replace HM := Lib.hid (HM.out.below hb HM.out.lt)
          replace HR := Lib.hid (HR.out.below hb HR.out.lt)
          replace HP := Lib.hid (HP.out.below hb HP.out.lt)
          clear hb HHT HMc0 HMc1 HMlt
          obtain ⟨hg, hhg⟩ : ∃ z, heightN m id = z := ⟨_, rfl⟩
          have HHG := Lib.hid hhg
          have hg64 : 1 ≤ hg ∧ hg ≤ 64 := by have := height_le HCM.out HX.out.1; rw [HX.out.2, hhg] at this; exact this
          rw [hhg]
          clear hhg
          have HPc0 := HP.out.cell 0
          have HPc1 := HP.out.cell 1
          have HPlt := HP.out.lt
          simp at HPc0 HPc1
          have HUN := Lib.hid (unhang_any m.next (.slice At n ct) l uh uy.heap.size (OB uy.heap.size ut.heap.size) (HO.out.ob HP.out) HO.out (by have := HP.out.lt; have := HPB.out; omega) (by rw [HLM.out]; exact HS.out) (by rw [HO.out.len_map HLM.out, HN.out]; omega) (by rw [HLM.out]; exact check_kids4 HCM.out) x (by rw [HLM.out]; exact HX.out.1) (by rw [HLM.out]; exact check_parent HCM.out HX.out.1))
          rw [HLM.out, HX.out.2] at HUN
          go_wp2_with fail
          refine HUN.out.mono ?_
          rintro _ un ⟨rfl, l1, hown, hlm, hk⟩
          have HO1 := Lib.hid hown
          have HL1 : Hid (l1.map LN.n = (mu m x).nodes) := Lib.hid (by rw [hlm]; show _ = unhangN m.nodes x.parent x.id; rw [HX.out.2])
          have hno1 : ¬ OB uy.heap.size ut.heap.size w.heap.size := fun h => by have := h.1; have := HBASE.out; omega
          have hno2 : ¬ OB uy.heap.size ut.heap.size (w.heap.size + 1) := fun h => by have := h.1; have := HBASE.out; omega
          have hno3 : ¬ OB uy.heap.size ut.heap.size ut.heap.size := fun h => h.2 rfl
          replace HM := Lib.hid (hk.blk HM.out hno1)
          replace HR := Lib.hid (hk.blk HR.out hno2)
          replace HP := Lib.hid (hk.blk HP.out hno3)
          replace HB_w : Hid (Below w.heap.size w un) := Lib.hid (HB_w.out.trans (hk.toBelow HB_w.out.size (fun b h => by have := h.1; have := HBASE.out; omega)))
          clear hown hlm hk HUN HPc0 HPc1 HPlt
          obtain ⟨ns1, hns1⟩ : ∃ z, mu m x = z := ⟨_, rfl⟩
          have HMU := Lib.hid hns1
          have HMN : Hid (ns1.nodes.length = n) := Lib.hid (by rw [← hns1, mu_len, HN.out])
          have HMX : Hid (ns1.next = m.next) := Lib.hid (by rw [← hns1]; rfl)
          have HS1 : Hid (SrtB ns1.nodes) := Lib.hid (by rw [← hns1]; exact mu_srt HCM.out)
          have HID1 : Hid (∀ i, IdAt ns1 i) := Lib.hid (by rw [← hns1]; exact mu_ids HCM.out)
          have HFM1 : Hid (Fam ns1) := Lib.hid (by rw [← hns1]; exact mu_fam HCM.out)
          have HCL1 : Hid (Closed ns1.nodes) := Lib.hid (by rw [← hns1]; exact mu_closed HCM.out)
          have HNK1 : Hid (∀ y ∈ ns1.nodes, x.id ∉ y.kids) := Lib.hid (by rw [← hns1]; exact mu_nokid HCM.out HX.out.1)
          have HK41 : Hid (∀ y ∈ ns1.nodes, y.kids.length ≤ 4096) := Lib.hid (by rw [← hns1]; exact mu_kids4 HCM.out)
          have HRK1 : Hid (∀ y ∈ ns1.nodes, ∀ k ∈ y.kids, InR k) := Lib.hid (by rw [← hns1]; exact mu_kidsR HRK.out)
          have HRP1 : Hid (∀ y ∈ ns1.nodes, InR y.parent) := Lib.hid (by rw [← hns1]; exact mu_parR HRPP.out)
          have HXN : Hid (∃ x1 ∈ ns1.nodes, x1.id = x.id) := Lib.hid (by rw [← hns1]; obtain ⟨y, hy, e, _⟩ := mu_node (x := x) HX.out.1; exact ⟨y, hy, e⟩)
          rw [hns1] at HL1
          have HROW : Hid (RowOf 7 ENode un (fun b => uy.heap.size ≤ b ∧ b < un.heap.size) At ns1.nodes) := Lib.hid (by rw [← HL1.out]; exact HO1.out.rowOf (fun b h1 h2 => ⟨h1, h2⟩))
          have HPc0 := HP.out.cell 0
          have HPc1 := HP.out.cell 1
          have HPlt := HP.out.lt
          simp at HPc0 HPc1
          obtain ⟨y1, hy1, hy1i⟩ : ∃ y1 ∈ ns1.nodes, y1.id = p := by rw [← hns1]; obtain ⟨y, hy, e, _⟩ := mu_node (x := x) HY.out.1; exact ⟨y, hy, e.trans HY.out.2⟩
          obtain ⟨jy, hjy, hjye⟩ := List.getElem_of_mem hy1
          obtain ⟨dp, hdp6, hdp⟩ := HCM.out.tree.dep y HY.out.1
          rw [HY.out.2] at hdp
          have hdp1 : Dep ns1 dp y1.id := by rw [← hns1, hy1i]; exact mu_dep HCM.out hdp
          obtain ⟨EG, hEG⟩ : ∃ z, kidE (spotI y1.kids (inL ns1 y1 role) a) dp hg = z := ⟨_, rfl⟩
          have E : Hid (EE = EG) := Lib.hid (by
            rw [← HEE.out, moveE_goal HCM.out HWD.out HNN.out HNL.out, HXO.out, hns1, ← hy1i, goalE_kid HFM1.out hy1 (by rw [hy1i]; exact hp0), hy1i, dN_yes HCM.out hdp, HHG.out]
            exact hEG)
          have HEG := Lib.hid hEG
          have HGO := Lib.hid (goalI_any At ct ns1 un (fun b => uy.heap.size ≤ b ∧ b < un.heap.size) (fun b h => h.2) HROW.out HID1.out HFM1.out HS1.out HRP1.out HRK1.out (by rw [HMN.out]; omega) jy hjy y1 hjye (HK41.out y1 hy1) role a ha dp hdp1 hdp6 hg (by omega))
          rw [hEG, HMN.out, HMX.out, hy1i] at HGO
          clear hns1 hEG hjye hdp hdp1
          go_wp2_with fail
          refine HGO.out.mono ?_
          rintro _ ug ⟨rfl, hb⟩
          replace HO1 := Lib.hid (HO1.out.below hb)
          have hbug := hb.size
          replace HB_w : Hid (Below w.heap.size w ug) := Lib.hid (HB_w.out.trans (hb.mono HB_w.out.size))
          replace HM := Lib.hid (HM.out.below hb HM.out.lt)
          replace HR := Lib.hid (HR.out.below hb HR.out.lt)
          replace HP := Lib.hid (HP.out.below hb HP.out.lt)
          clear hb HGO HPc0 HPc1 HPlt HROW
          by_cases hEG0 : EG = 0
          rotate_left 1
          · have hEne : EG ≠ 0 := hEG0
            have hEG1 : (EG != 0) = true := by simp; exact hEG0
            clear hEG0
            have t0 := HR.out.frozen 0; have t1 := HR.out.frozen 1
            have r0 := HR.out.cell 0; have r1 := HR.out.cell 1
            have hrlt := HR.out.lt
            simp at r0 r1
            go_wp2_with fail
            have hyS := (HR.out.set_ 0 (.int .i64 0)).set_ 1 (.slice none 0 0)
            have f0 := hyS.cell 0; have f1 := hyS.cell 1
            simp at f0 f1
            have HBW := Lib.hid ((HB_w.out.setCell (p := ⟨w.heap.size + 1, 0, none⟩) (by show w.heap.size ≤ w.heap.size + 1; omega) (.int .i64 0)).setCell (p := ⟨w.heap.size + 1, 1, none⟩) (by show w.heap.size ≤ w.heap.size + 1; omega) (.slice none 0 0))
            exact bodyPost_ret (v := .tuple #[.agg #[.int .i64 0, .slice none 0 0], .int .i64 (EG)]) (by simp [results, Try.results47, go_sem, f0, f1]) rfl ⟨⟨_, rfl, Or.inl ⟨by rw [E.out]; exact hEne, by rw [E.out]⟩⟩, HBW.out⟩
          subst hEG0
          obtain ⟨x1, hx1, hx1i⟩ := HXN.out
          obtain ⟨ii, hii⟩ : ∃ z, iOf ns1 p role a = z := ⟨_, rfl⟩
          have HPA : Hid (PlaceAt m.next ns1.nodes x1.id p role a ii) := Lib.hid (by
            rw [← hii, ← HMX.out]
            exact place_of (id := x1.id) (p := p) HFM1.out HK41.out (by rw [hx1i, HX.out.2]; exact hne) (.inr ⟨y1, hy1, hy1i⟩) (d := dp) (high := hg) (by rw [← hy1i, goalE_kid HFM1.out hy1 (by rw [hy1i]; exact hp0)]; exact HEG.out))
          have HHA := Lib.hid (hang_any m.next (.slice At n ct) l1 ug uy.heap.size (OB uy.heap.size ut.heap.size) (HO1.out.ob HP.out) HO1.out (by have := HP.out.lt; have := HPB.out; omega) (by rw [HL1.out]; exact HS1.out) (by rw [HL1.out]; exact HRK1.out) (by rw [HO1.out.len_map HL1.out, HMN.out]; omega) (by rw [HL1.out]; exact HCL1.out) x1 (by rw [HL1.out]; exact hx1) (by rw [HL1.out, hx1i]; exact HNK1.out) p role a ha ii (by rw [HL1.out]; exact HPA.out))
          rw [HL1.out, hx1i, HX.out.2] at HHA
          have HII := Lib.hid hii
          clear hii hx1 hx1i HPA hne
          have HPc0 := HP.out.cell 0
          have HPc1 := HP.out.cell 1
          have HPlt := HP.out.lt
          simp at HPc0 HPc1
          have q0 : ((0 : Int) != 0) = false := by decide
          go_wp2_with fail
          refine HHA.out.mono ?_
          rintro _ uz ⟨rfl, l2, hown, hlm, hk⟩
          have hno2 : ¬ OB uy.heap.size ut.heap.size (w.heap.size + 1) := fun h => by have := h.1; have := HBASE.out; omega
          have hno3 : ¬ OB uy.heap.size ut.heap.size ut.heap.size := fun h => h.2 rfl
          replace HR := Lib.hid (hk.blk HR.out hno2)
          replace HP := Lib.hid (hk.blk HP.out hno3)
          replace HB_w : Hid (Below w.heap.size w uz) := Lib.hid (HB_w.out.trans (hk.toBelow HB_w.out.size (fun b h => by have := h.1; have := HBASE.out; omega)))
          have HFIN : Hid (l2.map LN.n = LL) := Lib.hid (by
            rw [hlm, ← HLL.out]
            unfold moveL
            rw [HXO.out, HMU.out, HII.out])
          have HO2 := Lib.hid hown
          clear hown hlm hk HHA HPc0 HPc1 HPlt HM
          have p0 := HP.out.cell 0; have p1 := HP.out.cell 1
          have hplt := HP.out.lt
          simp at p0 p1
          have t0 := HR.out.frozen 0; have t1 := HR.out.frozen 1
          have r0 := HR.out.cell 0; have r1 := HR.out.cell 1
          have hrlt := HR.out.lt
          simp at r0 r1
          go_wp2_with fail
          have hyS := (HR.out.set_ 0 (.int .i64 m.next)).set_ 1 (.slice At n ct)
          have f0 := hyS.cell 0; have f1 := hyS.cell 1
          simp at f0 f1
          have HBW := Lib.hid ((HB_w.out.setCell (p := ⟨w.heap.size + 1, 0, none⟩) (by show w.heap.size ≤ w.heap.size + 1; omega) (.int .i64 m.next)).setCell (p := ⟨w.heap.size + 1, 1, none⟩) (by show w.heap.size ≤ w.heap.size + 1; omega) (.slice At n ct))
          refine bodyPost_ret (v := .tuple #[.agg #[.int .i64 m.next, .slice At n ct], .int .i64 0]) (by simp [results, Try.results47, go_sem, f0, f1]) rfl ⟨⟨_, rfl, Or.inr ⟨E.out, _, _, rfl, ?_, HFIN.out⟩⟩, HBW.out⟩
          refine (HO2.out.keep (w' := (uz.setCell ⟨w.heap.size + 1, 0, none⟩ (.int .i64 m.next)).setCell ⟨w.heap.size + 1, 1, none⟩ (.slice At n ct)) (fun b h1 _ => ?_)).weaken (by have := HBASE.out; omega)
          have := HBASE.out
          exact (Below.heap_setCell _ _ _ _ (by show b ≠ w.heap.size + 1; omega)).trans (Below.heap_setCell _ _ _ _ (by show b ≠ w.heap.size + 1; omega))
end Go.Proofs.Ytmafhaadcjgcbaa
