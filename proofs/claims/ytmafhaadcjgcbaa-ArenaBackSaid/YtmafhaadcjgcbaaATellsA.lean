import Derived.Test.YtmafhaadcjgcbaaAOrder
set_option linter.unusedSimpArgs false
set_option linter.unusedVariables false
namespace Go.Proofs.Ytmafhaadcjgcbaa
open Go Go.RowKit

def HasN (m : AModel) (id : Int) : Prop := CheckM m ∧ ∃ x ∈ m.nodes, x.id = id
open Classical in
noncomputable def kidR (m : AModel) (role : ByteArray) (id : Int) : List Int := if HasN m id then inL m (nodeOf m id) role else []
open Classical in
noncomputable def depR (m : AModel) (id : Int) : Int := if h : CheckM m ∧ ∃ d, Dep m d id then (Classical.choose h.2 : Nat) else 0
open Classical in
theorem kidR_no {m : AModel} {id : Int} {role : ByteArray} (h : ¬ HasN m id) : kidR m role id = [] := if_neg h
open Classical in
theorem kidR_yes {m : AModel} {x : ANode} {role : ByteArray} (h : CheckM m) (hx : x ∈ m.nodes) : kidR m role x.id = inL m x role := by
  unfold kidR; rw [if_pos ⟨h, x, hx, rfl⟩, h.tree.nodeOf hx]
open Classical in
theorem depR_no {m : AModel} {id : Int} (h : ¬ HasN m id) : depR m id = 0 := dif_neg (fun ⟨h1, _, h2⟩ => h ⟨h1, h2.node⟩)
open Classical in
theorem depR_yes {m : AModel} {d : Nat} {id : Int} (h : CheckM m) (hd : Dep m d id) : depR m id = d := by
  have hh : CheckM m ∧ ∃ d, Dep m d id := ⟨h, d, hd⟩
  unfold depR; rw [dif_pos hh, (Classical.choose_spec hh.2).uniq h.1.2 hd]
theorem none_has {m : AModel} {id : Int} (h : ∀ i (h : i < m.nodes.length), m.nodes[i].id ≠ id) : ¬ HasN m id := fun ⟨_, x, hx, e⟩ => by
  obtain ⟨j, hj, rfl⟩ := List.getElem_of_mem hx
  exact h j hj e

set_option maxRecDepth 100000 in
set_option maxHeartbeats 2000000 in
theorem depthA_any (A : Option Addr) (c : Nat) (m : AModel) (w : World) (F : Nat → Prop) (hF : ∀ b, F b → b < w.heap.size) (h : RowOf 7 ENode w F A m.nodes) (hz : ∀ x ∈ m.nodes, NodeOK x) (hl : m.nodes.length ≤ 9223372036854775807) (id : Int) (hid : InR id) :
    Calls Try.prog 25 #[.agg #[.int .i64 m.next, .slice A m.nodes.length c], .int .i64 id] w fun e w' => e = .returned (.int .i64 (depR m id)) ∧ Below w.heap.size w w' := by
  have HBA := Lib.hid ((Below.refl w.heap.size w).alloc (Nat.le_refl _) (.cells #[.int .i64 m.next, .slice A m.nodes.length c] 24))
  have HC := Lib.hid (check_any A c m (w.alloc (.cells #[.int .i64 m.next, .slice A m.nodes.length c] 24)) F (fun b hb => Nat.lt_of_lt_of_le (hF b hb) HBA.out.size) (h.keep ENode.stays (Keep.below HBA.out hF) (fun _ h => h)) hz hl)
  have HH := Lib.hid h
  have HZ := Lib.hid hz
  clear h hz
  by_cases hc : CheckM m
  · have HC2 := Lib.hid (int_is (checkI_yes hc) HC.out)
    have HCM := Lib.hid hc
    have HT := Lib.hid hc.tree
    have HS := Lib.hid hc.1.srtB
    have HK4 := Lib.hid hc.kids4
    have hl4 : m.nodes.length ≤ 4096 := hc.1.1.2.2
    clear hc HC
    go_enter Try.func25, Try.ntmps25
    go_wp2_with fail
    refine HC2.out.mono ?_
    rintro _ w2 ⟨rfl, hb2⟩
    have HB2 := Lib.hid (HBA.out.trans (hb2.mono HBA.out.size))
    have HM2 := Lib.hid ((Blk.new w 24 #[.int .i64 m.next, .slice A m.nodes.length c]).below hb2 (by simp))
    have m1 := HM2.out.cell 1; have m0 := HM2.out.cell 0
    have hmlt := HM2.out.lt
    simp at m0 m1
    clear hb2 HC2 HBA
    rcases atI_cases m.nodes id with ⟨j, hj, hj1, hj2⟩ | ⟨hj1, hj2⟩
    · have HAT := Lib.hid hj2
      obtain ⟨x, hx⟩ : ∃ x, m.nodes[j] = x := ⟨_, rfl⟩
      have hxm : x ∈ m.nodes := by rw [← hx]; exact List.getElem_mem hj
      have hxi : x.id = id := by rw [← hx]; exact hj1
      subst hxi
      have HX := Lib.hid hxm
      have HJX := Lib.hid hx
      clear hj1 hj2 hx hxm
      have g0 : decide ((j : Int) < 0) = false := decide_eq_false (by omega)
      go_wp2_with fail
      refine (place_any A c m.next x.id m.nodes w2 F (fun b hb => Nat.lt_of_lt_of_le (hF b hb) HB2.out.size) (HH.out.keep ENode.stays (Keep.below HB2.out hF) (fun _ h => h)) HS.out hid (by omega)).mono ?_
      rintro _ w3 ⟨rfl, hb3⟩
      rw [HAT.out]
      have HB3 := Lib.hid (HB2.out.trans (hb3.mono HB2.out.size))
      have HM3 := Lib.hid (HM2.out.below hb3 hmlt)
      have m1 := HM3.out.cell 1; have m0 := HM3.out.cell 0
      have hmlt3 := HM3.out.lt
      simp at m0 m1
      clear hb3
      go_wp2_with fail
      obtain ⟨d, hd6, hd⟩ := HT.out.dep x HX.out
      have E := Lib.hid (depR_yes HCM.out hd)
      refine (deep_any A c m w3 F (fun b hb => Nat.lt_of_lt_of_le (hF b hb) HB3.out.size) (HH.out.keep ENode.stays (Keep.below HB3.out hF) (fun _ h => h)) HT.out HS.out (fun x hx => (HZ.out x hx).2.1) (by omega) x HX.out d hd hd6).mono ?_
      rintro _ w4 ⟨rfl, hb4⟩
      have HB4 := Lib.hid (HB3.out.trans (hb4.mono HB3.out.size))
      clear hb4 hd
      go_wp2
      go_ret
      exact ⟨by rw [E.out]; rfl, HB4.out⟩
    · have E := Lib.hid (depR_no (none_has hj1))
      have HAT := Lib.hid hj2
      clear hj1 hj2
      go_wp2_with fail
      refine (place_any A c m.next id m.nodes w2 F (fun b hb => Nat.lt_of_lt_of_le (hF b hb) HB2.out.size) (HH.out.keep ENode.stays (Keep.below HB2.out hF) (fun _ h => h)) HS.out hid (by omega)).mono ?_
      rintro _ w3 ⟨rfl, hb3⟩
      rw [HAT.out]
      have HB3 := Lib.hid (HB2.out.trans (hb3.mono HB2.out.size))
      clear hb3
      go_wp2
      go_ret
      exact ⟨by rw [E.out]; rfl, HB3.out⟩
  · have HC2 := Lib.hid (int_is (checkI_no hc) HC.out)
    have E := Lib.hid (depR_no (m := m) (id := id) (fun h => hc h.1))
    clear hc HC
    go_enter Try.func25, Try.ntmps25
    go_wp2_with fail
    refine HC2.out.mono ?_
    rintro _ w2 ⟨rfl, hb2⟩
    have HB2 := Lib.hid (HBA.out.trans (hb2.mono HBA.out.size))
    clear hb2
    go_wp2
    go_ret
    exact ⟨by rw [E.out]; rfl, HB2.out⟩

set_option maxRecDepth 100000 in
set_option maxHeartbeats 2000000 in
theorem kidsA_any (A : Option Addr) (c : Nat) (m : AModel) (w : World) (F : Nat → Prop) (hF : ∀ b, F b → b < w.heap.size) (h : RowOf 7 ENode w F A m.nodes) (hz : ∀ x ∈ m.nodes, NodeOK x) (hl : m.nodes.length ≤ 9223372036854775807) (id : Int) (hid : InR id) (role : ByteArray) :
    Calls Try.prog 29 #[.agg #[.int .i64 m.next, .slice A m.nodes.length c], .int .i64 id, .string role] w fun e w' => ∃ v, e = .returned v ∧ OwnI w' w.heap.size v (kidR m role id) ∧ Below w.heap.size w w' := by
  have HBA := Lib.hid ((Below.refl w.heap.size w).alloc (Nat.le_refl _) (.cells #[.int .i64 m.next, .slice A m.nodes.length c] 24))
  have HC := Lib.hid (check_any A c m (w.alloc (.cells #[.int .i64 m.next, .slice A m.nodes.length c] 24)) F (fun b hb => Nat.lt_of_lt_of_le (hF b hb) HBA.out.size) (h.keep ENode.stays (Keep.below HBA.out hF) (fun _ h => h)) hz hl)
  have HH := Lib.hid h
  have HZ := Lib.hid hz
  clear h hz
  by_cases hc : CheckM m
  · have HC2 := Lib.hid (int_is (checkI_yes hc) HC.out)
    have HCM := Lib.hid hc
    have HT := Lib.hid hc.tree
    have HS := Lib.hid hc.1.srtB
    have HK4 := Lib.hid hc.kids4
    have hl4 : m.nodes.length ≤ 4096 := hc.1.1.2.2
    clear hc HC
    go_enter Try.func29, Try.ntmps29
    go_wp2_with fail
    refine HC2.out.mono ?_
    rintro _ w2 ⟨rfl, hb2⟩
    have HB2 := Lib.hid (HBA.out.trans (hb2.mono HBA.out.size))
    have HM2 := Lib.hid ((Blk.new w 24 #[.int .i64 m.next, .slice A m.nodes.length c]).below hb2 (by simp))
    have m1 := HM2.out.cell 1; have m0 := HM2.out.cell 0
    have hmlt := HM2.out.lt
    simp at m0 m1
    clear hb2 HC2 HBA
    rcases atI_cases m.nodes id with ⟨j, hj, hj1, hj2⟩ | ⟨hj1, hj2⟩
    · have HAT := Lib.hid hj2
      obtain ⟨x, hx⟩ : ∃ x, m.nodes[j] = x := ⟨_, rfl⟩
      have hxm : x ∈ m.nodes := by rw [← hx]; exact List.getElem_mem hj
      have hxi : x.id = id := by rw [← hx]; exact hj1
      subst hxi
      have HX := Lib.hid hxm
      have HJX := Lib.hid hx
      clear hj1 hj2 hx hxm
      have g0 : decide ((j : Int) < 0) = false := decide_eq_false (by omega)
      go_wp2_with fail
      refine (place_any A c m.next x.id m.nodes w2 F (fun b hb => Nat.lt_of_lt_of_le (hF b hb) HB2.out.size) (HH.out.keep ENode.stays (Keep.below HB2.out hF) (fun _ h => h)) HS.out hid (by omega)).mono ?_
      rintro _ w3 ⟨rfl, hb3⟩
      rw [HAT.out]
      have HB3 := Lib.hid (HB2.out.trans (hb3.mono HB2.out.size))
      have HM3 := Lib.hid (HM2.out.below hb3 hmlt)
      have m1 := HM3.out.cell 1; have m0 := HM3.out.cell 0
      have hmlt3 := HM3.out.lt
      simp at m0 m1
      clear hb3
      go_wp2_with fail
      refine wp_region_X (S := (fun w' => w'.cell? ⟨w.heap.size, 0, none⟩ = some (.int .i64 m.next) ∧ w'.cell? ⟨w.heap.size, 1, none⟩ = some (.slice A m.nodes.length c))) 6 (by kernel_rfl) (by exact ⟨m0, m1⟩) (fun hHeld => ?_)
      refine wpAnyX_take (i := 0) (v := ?_) rfl (by kernel_rfl) (by kernel_rfl) (by kernel_rfl) (by kernel_rfl) (fun _ _ _ h => h) (Or.inl ⟨by rfl, ?_⟩) (by assumption) ?_
      rotate_left 1
      · (intro w' hSw; obtain ⟨s0, s1⟩ := hSw; go_simp); try with_reducible rfl
      try simp only [Act.put]
      try simp only [List.setIfInBounds_toArray]
      try simp only [List.set_cons_succ]
      try simp only [List.set_cons_zero]
      try simp only [Nat.zero_add]
      refine wpAnyX_take (i := 1) (v := ?_) rfl (by kernel_rfl) (by kernel_rfl) (by kernel_rfl) (by kernel_rfl) (fun _ _ _ h => h) (Or.inl ⟨by rfl, ?_⟩) (by assumption) ?_
      rotate_left 1
      · (intro w' hSw; obtain ⟨s0, s1⟩ := hSw; go_simp); try with_reducible rfl
      try simp only [Act.put]
      try simp only [List.setIfInBounds_toArray]
      try simp only [List.set_cons_succ]
      try simp only [List.set_cons_zero]
      try simp only [Nat.zero_add]
      refine wpAnyX_take (i := 2) (v := ?_) rfl (by kernel_rfl) (by kernel_rfl) (by kernel_rfl) (by kernel_rfl) (fun _ _ _ h => h) (Or.inl ⟨by rfl, ?_⟩) (by assumption) ?_
      rotate_left 1
      · (intro w' hSw; obtain ⟨s0, s1⟩ := hSw; go_simp); try with_reducible rfl
      try simp only [Act.put]
      try simp only [List.setIfInBounds_toArray]
      try simp only [List.set_cons_succ]
      try simp only [List.set_cons_zero]
      try simp only [Nat.zero_add]
      refine wpAnyX_take (i := 4) (v := ?_) rfl (by kernel_rfl) (by kernel_rfl) (by kernel_rfl) (by kernel_rfl) (fun _ _ _ h => h) (Or.inl ⟨by rfl, ?_⟩) (by assumption) ?_
      rotate_left 1
      · (intro w' hSw; obtain ⟨s0, s1⟩ := hSw; go_simp); try with_reducible rfl
      try simp only [Act.put]
      try simp only [List.setIfInBounds_toArray]
      try simp only [List.set_cons_succ]
      try simp only [List.set_cons_zero]
      try simp only [Nat.zero_add]
      refine wpAnyX_one (i := 3) rfl (by kernel_rfl) (fun K hK => ?_)
      go_simp
      refine (place_any A c m.next x.id m.nodes w3.drew F (fun b hb => Nat.lt_of_lt_of_le (hF b hb) HB3.out.size) (HH.out.keep ENode.stays (Keep.below HB3.out.drew hF) (fun _ h => h)) HS.out hid (by omega)).mono ?_
      rintro _ w5 ⟨rfl, hb5⟩
      rw [HAT.out]
      have HB5 := Lib.hid (HB3.out.drew.trans (hb5.mono HB3.out.size))
      have x0 := (hb5.cell (p := ⟨w.heap.size, 0, none⟩) hmlt3).trans m0
      have x1 := (hb5.cell (p := ⟨w.heap.size, 1, none⟩) hmlt3).trans m1
      have hlt5 := Nat.lt_of_lt_of_le hmlt3 hb5.size
      clear hb5
      go_simp
      refine hK.out _ _ (fun _ => ⟨x0, x1⟩) ?_
      clear hK K
      try simp only [Act.put]
      try simp only [List.setIfInBounds_toArray]
      try simp only [List.set_cons_succ]
      try simp only [List.set_cons_zero]
      try simp only [Nat.zero_add]
      refine wpAnyX_one (i := 5) rfl (by kernel_rfl) (fun K hK => ?_)
      go_simp
      refine (in_any A c m w5 F (fun b hb => Nat.lt_of_lt_of_le (hF b hb) HB5.out.size) (HH.out.keep ENode.stays (Keep.below HB5.out hF) (fun _ h => h)) HT.out HS.out (fun x hx => (HZ.out x hx).2.2) (by omega) j hj x HJX.out (HK4.out x HX.out) role).mono ?_
      rintro _ w6 ⟨v6, rfl, hown6, hb6⟩
      have HB6 := Lib.hid (HB5.out.trans (hb6.mono HB5.out.size))
      have HO6 := Lib.hid (hown6.weaken HB5.out.size)
      obtain ⟨A6, c6, rfl⟩ := hown6.shape
      have z0 := (hb6.cell (p := ⟨w.heap.size, 0, none⟩) hlt5).trans x0
      have z1 := (hb6.cell (p := ⟨w.heap.size, 1, none⟩) hlt5).trans x1
      have E := Lib.hid (kidR_yes (role := role) HCM.out HX.out)
      clear hown6 hb6
      go_simp
      refine hK.out _ _ (fun _ => ⟨z0, z1⟩) ?_
      clear hK K
      try simp only [Act.put]
      try simp only [List.setIfInBounds_toArray]
      try simp only [List.set_cons_succ]
      try simp only [List.set_cons_zero]
      try simp only [Nat.zero_add]
      refine wpAnyX_one (i := 6) rfl (by kernel_rfl) (fun K hK => ?_)
      go_simp
      refine hK.out _ _ (fun h => absurd rfl h) ?_
      clear hK K
      try simp only [Act.put]
      try simp only [List.setIfInBounds_toArray]
      try simp only [List.set_cons_succ]
      try simp only [List.set_cons_zero]
      try simp only [Nat.zero_add]
      refine wpAnyX_done (by kernel_rfl) ?_ _
      clear hHeld
      go_wp2
      go_ret
      exact ⟨_, rfl, by rw [E.out]; exact HO6.out, HB6.out⟩
    · have E := Lib.hid (kidR_no (role := role) (none_has hj1))
      have HAT := Lib.hid hj2
      clear hj1 hj2
      go_wp2_with fail
      refine (place_any A c m.next id m.nodes w2 F (fun b hb => Nat.lt_of_lt_of_le (hF b hb) HB2.out.size) (HH.out.keep ENode.stays (Keep.below HB2.out hF) (fun _ h => h)) HS.out hid (by omega)).mono ?_
      rintro _ w3 ⟨rfl, hb3⟩
      rw [HAT.out]
      have HB3 := Lib.hid (HB2.out.trans (hb3.mono HB2.out.size))
      clear hb3
      go_wp2
      go_ret
      exact ⟨_, rfl, by rw [E.out]; exact OwnI.nil _ _, HB3.out⟩
  · have HC2 := Lib.hid (int_is (checkI_no hc) HC.out)
    have E := Lib.hid (kidR_no (role := role) (m := m) (id := id) (fun h => hc h.1))
    clear hc HC
    go_enter Try.func29, Try.ntmps29
    go_wp2_with fail
    refine HC2.out.mono ?_
    rintro _ w2 ⟨rfl, hb2⟩
    have HB2 := Lib.hid (HBA.out.trans (hb2.mono HBA.out.size))
    clear hb2
    go_wp2
    go_ret
    exact ⟨_, rfl, by rw [E.out]; exact OwnI.nil _ _, HB2.out⟩

end Go.Proofs.Ytmafhaadcjgcbaa
