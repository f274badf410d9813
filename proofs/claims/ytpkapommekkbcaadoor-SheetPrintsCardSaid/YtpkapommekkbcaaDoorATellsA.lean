import Derived.Test.YtpkapommekkbcaaDoorAOrder
set_option linter.unusedSimpArgs false
set_option linter.unusedVariables false
namespace Go.Proofs.YtpkapommekkbcaaDoor
open Go Go.RowKit

def HasN (m : AModel) (id : Int) : Prop := CheckM m ∧ ∃ x ∈ m.nodes, x.id = id
open Classical in
noncomputable def depR (m : AModel) (id : Int) : Int := if h : CheckM m ∧ ∃ d, Dep m d id then (Classical.choose h.2 : Nat) else 0
open Classical in
theorem depR_no {m : AModel} {id : Int} (h : ¬ HasN m id) : depR m id = 0 := dif_neg (fun ⟨h1, _, h2⟩ => h ⟨h1, h2.node⟩)
open Classical in
theorem depR_yes {m : AModel} {d : Nat} {id : Int} (h : CheckM m) (hd : Dep m d id) : depR m id = d := by
  have hh : CheckM m ∧ ∃ d, Dep m d id := ⟨h, d, hd⟩
  unfold depR; rw [dif_pos hh, (Classical.choose_spec hh.2).uniq h.1.2 hd]
theorem none_has {m : AModel} {id : Int} (h : ∀ i (h : i < m.nodes.length), m.nodes[i].id ≠ id) : ¬ HasN m id := fun ⟨_, x, hx, e⟩ => by
  obtain ⟨j, hj, rfl⟩ := List.getElem_of_mem hx
  exact h j hj e

set_option maxRecDepth 100000 in
set_option maxHeartbeats 2000000 in
theorem rdepth_any (A : Option Addr) (c : Nat) (m : AModel) (w : World) (F : Nat → Prop) (hF : ∀ b, F b → b < w.heap.size) (h : RowOf 7 ENode w F A m.nodes) (hz : ∀ x ∈ m.nodes, NodeOK x) (hl : m.nodes.length ≤ 9223372036854775807) (id : Int) (hid : InR id) :
    Calls Tryd.prog 24 #[.agg #[.int .i64 m.next, .slice A m.nodes.length c], .int .i64 id] w fun e w' => e = .returned (.int .i64 (depR m id)) ∧ Below w.heap.size w w' := by
  have HBA := Lib.hid ((Below.refl w.heap.size w).alloc (Nat.le_refl _) (.cells #[.int .i64 m.next, .slice A m.nodes.length c] 24))
  have HC := Lib.hid (right_any A c m (w.alloc (.cells #[.int .i64 m.next, .slice A m.nodes.length c] 24)) F (fun b hb => Nat.lt_of_lt_of_le (hF b hb) HBA.out.size) (h.keep ENode.stays (Keep.below HBA.out hF) (fun _ h => h)) (fun x hx => (hz x hx).1) hl)
  have HH := Lib.hid h
  have HZ := Lib.hid hz
  clear h hz
  by_cases hc : CheckM m
  · have HC2 := Lib.hid (res_is (rightM_is.1 hc) HC.out)
    have HCM := Lib.hid hc
    have HT := Lib.hid hc.tree
    have HS := Lib.hid hc.1.srtB
    have HK4 := Lib.hid hc.kids4
    have hl4 : m.nodes.length ≤ 4096 := hc.1.1.2.2
    clear hc HC
    go_enter Tryd.func24, Tryd.ntmps24
    go_wp2_with fail
    refine HC2.out.mono ?_
    rintro _ w2 ⟨rfl, hb2⟩
    have HB2 := Lib.hid (HBA.out.trans (hb2.mono HBA.out.size))
    have HM2 := Lib.hid ((Blk.new w 24 #[.int .i64 m.next, .slice A m.nodes.length c]).below hb2 (by simp))
    have m1 := HM2.out.cell 1; have m0 := HM2.out.cell 0
    have hmlt := HM2.out.lt
    simp at m0 m1
    clear hb2 HC2 HBA
    rcases atI_cases m.nodes id with ⟨j, hj, hj1, hj2⟩ | ⟨hj1, hj2⟩
    · have HAT := Lib.hid hj2
      obtain ⟨x, hx⟩ : ∃ x, m.nodes[j] = x := ⟨_, rfl⟩
      have hxm : x ∈ m.nodes := by rw [← hx]; exact List.getElem_mem hj
      have hxi : x.id = id := by rw [← hx]; exact hj1
      subst hxi
      have HX := Lib.hid hxm
      have HJX := Lib.hid hx
      clear hj1 hj2 hx hxm
      have g0 : decide ((j : Int) < 0) = false := decide_eq_false (by omega)
      go_wp2_with fail
      refine (at_any A c m.next x.id m.nodes w2 F (fun b hb => Nat.lt_of_lt_of_le (hF b hb) HB2.out.size) (HH.out.keep ENode.stays (Keep.below HB2.out hF) (fun _ h => h)) HS.out.1 (by omega)).mono ?_
      rintro _ w3 ⟨rfl, hb3⟩
      rw [HAT.out]
      have HB3 := Lib.hid (HB2.out.trans (hb3.mono HB2.out.size))
      have HM3 := Lib.hid (HM2.out.below hb3 hmlt)
      have m1 := HM3.out.cell 1; have m0 := HM3.out.cell 0
      have hmlt3 := HM3.out.lt
      simp at m0 m1
      clear hb3
      go_wp2_with fail
      obtain ⟨d, hd6, hd⟩ := HT.out.dep x HX.out
      have E := Lib.hid (depR_yes HCM.out hd)
      refine (depth_any A c m w3 F (fun b hb => Nat.lt_of_lt_of_le (hF b hb) HB3.out.size) (HH.out.keep ENode.stays (Keep.below HB3.out hF) (fun _ h => h)) HT.out HS.out (fun x hx => (HZ.out x hx).2.1) (by omega) x HX.out d hd hd6).mono ?_
      rintro _ w4 ⟨rfl, hb4⟩
      have HB4 := Lib.hid (HB3.out.trans (hb4.mono HB3.out.size))
      clear hb4 hd
      go_wp2
      go_ret
      exact ⟨by rw [E.out]; rfl, HB4.out⟩
    · have E := Lib.hid (depR_no (none_has hj1))
      have HAT := Lib.hid hj2
      clear hj1 hj2
      go_wp2_with fail
      refine (at_any A c m.next id m.nodes w2 F (fun b hb => Nat.lt_of_lt_of_le (hF b hb) HB2.out.size) (HH.out.keep ENode.stays (Keep.below HB2.out hF) (fun _ h => h)) HS.out.1 (by omega)).mono ?_
      rintro _ w3 ⟨rfl, hb3⟩
      rw [HAT.out]
      have HB3 := Lib.hid (HB2.out.trans (hb3.mono HB2.out.size))
      clear hb3
      go_wp2
      go_ret
      exact ⟨by rw [E.out]; rfl, HB3.out⟩
  · have HC2 := Lib.hid (res_is (rightM_is.2 hc) HC.out)
    have E := Lib.hid (depR_no (m := m) (id := id) (fun h => hc h.1))
    clear hc HC
    go_enter Tryd.func24, Tryd.ntmps24
    go_wp2_with fail
    refine HC2.out.mono ?_
    rintro _ w2 ⟨rfl, hb2⟩
    have HB2 := Lib.hid (HBA.out.trans (hb2.mono HBA.out.size))
    clear hb2
    go_wp2
    go_ret
    exact ⟨by rw [E.out]; rfl, HB2.out⟩

end Go.Proofs.YtpkapommekkbcaaDoor
