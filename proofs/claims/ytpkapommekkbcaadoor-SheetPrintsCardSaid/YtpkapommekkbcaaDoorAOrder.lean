import Derived.Test.YtpkapommekkbcaaDoorAOwnI
import Derived.Test.YtpkapommekkbcaaDoorATree
import Derived.Test.YtpkapommekkbcaaDoorAAlone
import Derived.Laws.EntriesVeiled
import Derived.Test.YtpkapommekkbcaaDoorADown
import Derived.Test.YtpkapommekkbcaaDoorRegX
import Derived.Test.YtpkapommekkbcaaDoorACheck
set_option linter.unusedSimpArgs false
set_option linter.unusedVariables false
section
namespace Go.Proofs.YtpkapommekkbcaaDoor
open Go Go.RowKit

end Go.Proofs.YtpkapommekkbcaaDoor
end
section
namespace Go.Proofs.YtpkapommekkbcaaDoor
open Go Go.RowKit

end Go.Proofs.YtpkapommekkbcaaDoor
end
section
namespace Go.Proofs.YtpkapommekkbcaaDoor
open Go Go.RowKit

def ordTo (m : AModel) (i : Nat) : List Int := (((m.nodes.take i).filter (fun n => n.parent == 0)).map (·.id)).flatMap fun r => r :: belowL m r
theorem ordTo_succ {m : AModel} {i : Nat} (h : i < m.nodes.length) : ordTo m (i + 1) = ordTo m i ++ (if m.nodes[i].parent = 0 then m.nodes[i].id :: belowL m m.nodes[i].id else []) := by
  unfold ordTo
  rw [List.take_succ_eq_append_getElem h, List.filter_append, List.map_append, List.flatMap_append]
  by_cases hp : m.nodes[i].parent = 0 <;> simp [List.filter_cons, hp]
theorem ordTo_all {m : AModel} {i : Nat} (h : ¬ i < m.nodes.length) : ordTo m i = orderL m := by
  unfold ordTo orderL rootsL; rw [List.take_of_length_le (by omega)]
theorem ordTo_len (m : AModel) (i : Nat) : (ordTo m i).length ≤ (orderL m).length := by
  have : orderL m = ordTo m i ++ ((((m.nodes.drop i).filter (fun n => n.parent == 0)).map (·.id)).flatMap fun r => r :: belowL m r) := by
    unfold orderL rootsL ordTo
    rw [← List.flatMap_append, ← List.map_append, ← List.filter_append, List.take_append_drop]
  rw [this, List.length_append]; omega
open Classical in
noncomputable def ordL (m : AModel) : List Int := if CheckM m then orderL m else []
open Classical in
theorem ordL_no {m : AModel} (h : ¬ CheckM m) : ordL m = [] := if_neg h
open Classical in
theorem ordL_yes {m : AModel} (h : CheckM m) : ordL m = orderL m := if_pos h
open Classical in
theorem checkI_yes {m : AModel} (h : CheckM m) : checkI m = 0 := by unfold checkI; rw [decide_eq_true h]; rfl
theorem rightM_is {m : AModel} : (CheckM m → rightM m = true) ∧ (¬ CheckM m → rightM m = false) := ⟨fun h => rightM_yes (check_iff.1 h), fun h => rightM_no (fun e => h (check_iff.2 e))⟩
theorem CheckM.kids4 {m : AModel} (h : CheckM m) : ∀ x ∈ m.nodes, x.kids.length ≤ 4096 := fun x hx => by
  have := (h.2.1 x hx).2.2.2.1; have := h.1.1.2.2; omega

set_option maxRecDepth 100000 in
set_option maxHeartbeats 2000000 in
theorem rorder_any (A : Option Addr) (c : Nat) (m : AModel) (w : World) (F : Nat → Prop) (hF : ∀ b, F b → b < w.heap.size) (h : RowOf 7 ENode w F A m.nodes) (hz : ∀ x ∈ m.nodes, NodeOK x) (hl : m.nodes.length ≤ 9223372036854775807) :
    Calls Tryd.prog 22 #[.agg #[.int .i64 m.next, .slice A m.nodes.length c]] w fun e w' => ∃ v, e = .returned v ∧ OwnI w' w.heap.size v (ordL m) ∧ Below w.heap.size w w' := by
  have HBA := Lib.hid ((Below.refl w.heap.size w).alloc (Nat.le_refl _) (.cells #[.int .i64 m.next, .slice A m.nodes.length c] 24))
  have HC := Lib.hid (right_any A c m (w.alloc (.cells #[.int .i64 m.next, .slice A m.nodes.length c] 24)) F (fun b hb => Nat.lt_of_lt_of_le (hF b hb) HBA.out.size) (h.keep ENode.stays (Keep.below HBA.out hF) (fun _ h => h)) (fun x hx => (hz x hx).1) hl)
  have HH := Lib.hid h
  have HZ := Lib.hid hz
  clear h hz
  by_cases hc : CheckM m
  · have HCM := Lib.hid hc
    have HC2 := Lib.hid (res_is (rightM_is.1 hc) HC.out)
    have HT := Lib.hid hc.tree
    have HS := Lib.hid hc.1.srtB
    have HK4 := Lib.hid hc.kids4
    have hl4 : m.nodes.length ≤ 4096 := hc.1.1.2.2
    have hol := Nat.le_trans hc.tree.order_len hl4
    clear hc HC
    go_enter Tryd.func22, Tryd.ntmps22
    go_wp2_with fail
    refine HC2.out.mono ?_
    rintro _ w2 ⟨rfl, hb2⟩
    have HB2 := Lib.hid (HBA.out.trans (hb2.mono HBA.out.size))
    have HM2 := Lib.hid ((Blk.new w 24 #[.int .i64 m.next, .slice A m.nodes.length c]).below hb2 (by simp))
    have m1 := HM2.out.cell 1; have m0 := HM2.out.cell 0
    have hmlt := HM2.out.lt
    simp at m0 m1
    clear hb2 HC2 HBA
    go_wp2_with fail
    clear m0 m1 hmlt
    go_loopg [3, 4] m.nodes.length (fun g s3 s4 wx => ∃ (i : Nat) (v : Value), s4 = .int .i64 i ∧ s3 = v ∧ g = m.nodes.length - i ∧ i ≤ m.nodes.length ∧ Below w.heap.size w wx ∧ Blk wx w.heap.size 24 #[.int .i64 m.next, .slice A m.nodes.length c] ∧ OwnI wx (w.heap.size + 1) v (ordTo m i))
    case atStart => exact ⟨0, _, rfl, rfl, rfl, Nat.zero_le _, HB2.out, HM2.out, OwnI.nil _ _⟩
    case round =>
      clear HB2 HM2
      obtain ⟨i, v, rfl, rfl, hgi, hil, hb, hmb, hown⟩ := hrel
      have HGI := Lib.hid hgi
      obtain ⟨L, hL⟩ : ∃ L, ordTo m i = L := ⟨_, rfl⟩
      have hLl : L.length ≤ 4096 := by rw [← hL]; exact Nat.le_trans (ordTo_len m i) hol
      rw [hL] at hown
      have HL := Lib.hid hL; clear hL hgi
      obtain ⟨A', c', rfl⟩ := hown.shape
      have HB := Lib.hid hb; have HM := Lib.hid hmb; have HOWN := Lib.hid hown
      have m0 := hmb.cell 0; have m1 := hmb.cell 1
      have hmlt := hmb.lt
      have hsz := hb.size
      simp at m0 m1
      clear hmb hown
      by_cases hlt : i < m.nodes.length
      · have hlt' : (i : Int) < m.nodes.length := by omega
        have i0 : (0 : Int) ≤ i := by omega
        obtain ⟨b, off, Sp, cp, Sk, ck, Sr, cr, rfl, hbF, d0, d1, d2, d3, d4, d5, d6, _⟩ := node_at (RowOf.keep ENode.stays (Keep.below hb hF) (F' := F) (fun _ h => h) HH.out) hlt
        have hbw : b < wr.heap.size := Nat.lt_of_lt_of_le (hF _ hbF) hsz
        have HNX := Lib.hid (ordTo_succ hlt)
        have HX := Lib.hid (List.getElem_mem hlt)
        obtain ⟨n, hn⟩ : ∃ n, m.nodes[i] = n := ⟨_, rfl⟩
        rw [hn] at d0 d1 d2 d3 d4 d5 d6 HNX HX
        have HNE := Lib.hid hn
        have HBE := Lib.hid (HT.out.below_len HX.out)
        clear hb hn
        cases hp0 : (n.parent == 0)
        · have HN2 : Hid (ordTo m (i + 1) = L) := Lib.hid (by rw [HNX.out, if_neg (beq_eq_false_iff_ne.1 hp0), HL.out]; simp)
          go_wp2
          go_roundg (m.nodes.length - (i + 1))
          case measure => have := HGI.out; omega
          case rel => exact ⟨i + 1, _, by go_num, rfl, rfl, by omega, HB.out, HM.out, by rw [HN2.out]; exact HOWN.out⟩
        · have HN2 : Hid (ordTo m (i + 1) = L ++ (n.id :: belowL m n.id)) := Lib.hid (by rw [HNX.out, if_pos (beq_iff_eq.1 hp0), HL.out])
          have HOW1 := Lib.hid (HOWN.out.alloc (.cells #[.int .i64 n.id] 3))
          go_wp2_with (at_builtin; refine wpList_pushI rfl (.tmp 22) (.tmp 29) rfl ?a1 HOW1.out n.id wr.heap.size ?a2 ?a3 ?a4 ?a5 ?a6)
          case a1 => rfl
          case a2 => rfl
          case a3 => exact Blk.new _ _ _
          case a4 => omega
          case a5 => simp; omega
          case a6 =>
            intro A3 c3 w3 own3 hg3 _
            have HOW3 := Lib.hid own3
            have HB3 := Lib.hid ((HB.out.alloc hsz _).grown hg3 (by simp; omega) (fun k e => Nat.le_of_succ_le (HOWN.out.lt k e).1))
            have HM3 := Lib.hid ((HM.out.alloc (.cells #[.int .i64 n.id] 3)).grown hg3 (fun e => by have := (HOWN.out.lt _ e.symm).1; omega))
            have hmlt3 := HM3.out.lt
            have y0 := HM3.out.cell 0; have y1 := HM3.out.cell 1
            have hbF0 := hF _ hbF
            obtain ⟨b2, off2, _, _, _, _, _, _, e', _, x0, _⟩ := node_at (RowOf.keep ENode.stays (Keep.below HB3.out hF) (F' := F) (fun _ h => h) HH.out) hlt
            injection e' with e'
            injection e' with e1 e2
            subst e1; subst e2
            rw [HNE.out] at x0
            simp at y0 y1
            clear own3 hg3 d0 d1 d2 d3 d4 d5 d6 m0 m1
            go_wp2_with fail
            refine wp_region_X (S := (fun w' => w'.cell? ⟨b, off + i * 7, none⟩ = some (.int .i64 n.id) ∧ w'.cell? ⟨w.heap.size, 0, none⟩ = some (.int .i64 m.next) ∧ w'.cell? ⟨w.heap.size, 1, none⟩ = some (.slice (some ⟨b, off, none⟩) m.nodes.length c))) 10 (by kernel_rfl) (by exact ⟨x0, y0, y1⟩) (fun hHeld => ?_)
            refine wpAnyX_take (i := 0) (v := ?_) rfl (by kernel_rfl) (by kernel_rfl) (by kernel_rfl) (by kernel_rfl) (fun _ _ _ h => h) (Or.inl ⟨by rfl, ?_⟩) (by assumption) ?_
            rotate_left 1
            · (intro w' hSw; obtain ⟨s0, s1, s2⟩ := hSw; go_simp); try with_reducible rfl
            try simp only [Act.put]
            try simp only [List.setIfInBounds_toArray]
            try simp only [List.set_cons_succ]
            try simp only [List.set_cons_zero]
            try simp only [Nat.zero_add]
            refine wpAnyX_take (i := 1) (v := ?_) rfl (by kernel_rfl) (by kernel_rfl) (by kernel_rfl) (by kernel_rfl) (fun _ _ _ h => h) (Or.inl ⟨by rfl, ?_⟩) (by assumption) ?_
            rotate_left 1
            · (intro w' hSw; obtain ⟨s0, s1, s2⟩ := hSw; go_simp); try with_reducible rfl
            try simp only [Act.put]
            try simp only [List.setIfInBounds_toArray]
            try simp only [List.set_cons_succ]
            try simp only [List.set_cons_zero]
            try simp only [Nat.zero_add]
            refine wpAnyX_take (i := 2) (v := ?_) rfl (by kernel_rfl) (by kernel_rfl) (by kernel_rfl) (by kernel_rfl) (fun _ _ _ h => h) (Or.inl ⟨by rfl, ?_⟩) (by assumption) ?_
            rotate_left 1
            · (intro w' hSw; obtain ⟨s0, s1, s2⟩ := hSw; go_simp); try with_reducible rfl
            try simp only [Act.put]
            try simp only [List.setIfInBounds_toArray]
            try simp only [List.set_cons_succ]
            try simp only [List.set_cons_zero]
            try simp only [Nat.zero_add]
            refine wpAnyX_take (i := 3) (v := ?_) rfl (by kernel_rfl) (by kernel_rfl) (by kernel_rfl) (by kernel_rfl) (fun _ _ _ h => h) (Or.inl ⟨by rfl, ?_⟩) (by assumption) ?_
            rotate_left 1
            · (intro w' hSw; obtain ⟨s0, s1, s2⟩ := hSw; go_simp); try with_reducible rfl
            try simp only [Act.put]
            try simp only [List.setIfInBounds_toArray]
            try simp only [List.set_cons_succ]
            try simp only [List.set_cons_zero]
            try simp only [Nat.zero_add]
            refine wpAnyX_take (i := 4) (v := ?_) rfl (by kernel_rfl) (by kernel_rfl) (by kernel_rfl) (by kernel_rfl) (fun _ _ _ h => h) (Or.inl ⟨by rfl, ?_⟩) (by assumption) ?_
            rotate_left 1
            · (intro w' hSw; obtain ⟨s0, s1, s2⟩ := hSw; go_simp); try with_reducible rfl
            try simp only [Act.put]
            try simp only [List.setIfInBounds_toArray]
            try simp only [List.set_cons_succ]
            try simp only [List.set_cons_zero]
            try simp only [Nat.zero_add]
            refine wpAnyX_take (i := 5) (v := ?_) rfl (by kernel_rfl) (by kernel_rfl) (by kernel_rfl) (by kernel_rfl) (fun _ _ _ h => h) (Or.inl ⟨by rfl, ?_⟩) (by assumption) ?_
            rotate_left 1
            · (intro w' hSw; obtain ⟨s0, s1, s2⟩ := hSw; go_simp); try with_reducible rfl
            try simp only [Act.put]
            try simp only [List.setIfInBounds_toArray]
            try simp only [List.set_cons_succ]
            try simp only [List.set_cons_zero]
            try simp only [Nat.zero_add]
            refine wpAnyX_take (i := 6) (v := ?_) rfl (by kernel_rfl) (by kernel_rfl) (by kernel_rfl) (by kernel_rfl) (fun _ _ _ h => h) (Or.inl ⟨by rfl, ?_⟩) (by assumption) ?_
            rotate_left 1
            · (intro w' hSw; obtain ⟨s0, s1, s2⟩ := hSw; go_simp); try with_reducible rfl
            try simp only [Act.put]
            try simp only [List.setIfInBounds_toArray]
            try simp only [List.set_cons_succ]
            try simp only [List.set_cons_zero]
            try simp only [Nat.zero_add]
            refine wpAnyX_take (i := 7) (v := ?_) rfl (by kernel_rfl) (by kernel_rfl) (by kernel_rfl) (by kernel_rfl) (fun _ _ _ h => h) (Or.inl ⟨by rfl, ?_⟩) (by assumption) ?_
            rotate_left 1
            · (intro w' hSw; obtain ⟨s0, s1, s2⟩ := hSw; go_simp); try with_reducible rfl
            try simp only [Act.put]
            try simp only [List.setIfInBounds_toArray]
            try simp only [List.set_cons_succ]
            try simp only [List.set_cons_zero]
            try simp only [Nat.zero_add]
            refine wpAnyX_one (i := 8) rfl (by kernel_rfl) (fun K hK => ?_)
            go_simp
            refine (down_any (some ⟨b, off, none⟩) c m w3.drew F (fun b hb => Nat.lt_of_lt_of_le (hF b hb) HB3.out.size) (HH.out.keep ENode.stays (Keep.below HB3.out.drew hF) (fun _ h => h)) HT.out HS.out HK4.out hl4 n HX.out).mono ?_
            rintro _ w5 ⟨v5, rfl, hown5, hb5⟩
            obtain ⟨A5, c5, rfl⟩ := hown5.shape
            obtain ⟨_, _, e5, _, _, HR5⟩ := hown5.isRow (F := fun b => b < w5.heap.size) (fun b _ h => h)
            injection e5 with e5 e6 e7
            subst e5
            clear e6 e7
            have HRR := Lib.hid HR5
            have HB5 := Lib.hid (HB3.out.drew.trans (hb5.mono HB3.out.size))
            have HM5 := Lib.hid (Blk.below HM3.out.drew hb5 hmlt3)
            have HOW5 := Lib.hid (HOW3.out.drew.below hb5)
            have x5 := (hb5.cell (p := ⟨b, off + i * 7, none⟩) (by have := HB3.out.size; show b < w3.heap.size; omega)).trans x0
            have z0 := (hb5.cell (p := ⟨w.heap.size, 0, none⟩) hmlt3).trans y0
            have z1 := (hb5.cell (p := ⟨w.heap.size, 1, none⟩) hmlt3).trans y1
            have hl5 : (L ++ [n.id]).length = L.length + 1 := by simp
            clear hown5 hb5 HR5
            go_simp
            refine hK.out _ _ (fun _ => ⟨x5, z0, z1⟩) ?_
            clear hK K
            try simp only [Act.put]
            try simp only [List.setIfInBounds_toArray]
            try simp only [List.set_cons_succ]
            try simp only [List.set_cons_zero]
            try simp only [Nat.zero_add]
            refine wpAnyX_one (i := 9) rfl (by kernel_rfl) (fun K hK => ?_)
            refine step_joinI (by rfl) (.tmp 31) (.tmp 39) (by rfl) (by rfl) (v := .slice A3 (L.length + 1) c3) HOW5.out A5 c5 (belowL m n.id) _ (by rfl) HRR.out (by have := HBE.out; simp; omega) (by have := HM5.out.lt; omega) ?_
            intro A6 c6 w6 own6 hg6 _
            rw [hl5] at own6 ⊢
            clear hl5
            refine hK.out _ _ (fun _ => ?s9) ?_
            case s9 => exact ⟨hg6.cell x5 (fun e => by have h7 : w.heap.size + 1 ≤ b := (HOW5.out.lt _ e.symm).1; omega), hg6.cell z0 (fun e => by have h7 : w.heap.size + 1 ≤ w.heap.size := (HOW5.out.lt _ e.symm).1; omega), hg6.cell z1 (fun e => by have h7 : w.heap.size + 1 ≤ w.heap.size := (HOW5.out.lt _ e.symm).1; omega)⟩
            clear hK K
            try simp only [Act.put]
            try simp only [List.setIfInBounds_toArray]
            try simp only [List.set_cons_succ]
            try simp only [List.set_cons_zero]
            try simp only [Nat.zero_add]
            refine wpAnyX_one (i := 10) rfl (by kernel_rfl) (fun K hK => ?_)
            go_simp
            refine hK.out _ _ (fun h => absurd rfl h) ?_
            clear hK K
            try simp only [Act.put]
            try simp only [List.setIfInBounds_toArray]
            try simp only [List.set_cons_succ]
            try simp only [List.set_cons_zero]
            try simp only [Nat.zero_add]
            refine wpAnyX_done (by kernel_rfl) ?_ _
            have HB9 := Lib.hid (HB5.out.grown hg6 (HB5.out.size) (fun k e => Nat.le_of_succ_le (HOW5.out.lt k e).1))
            have HM9 := Lib.hid (HM5.out.grown hg6 (fun e => by have := (HOW5.out.lt _ e.symm).1; omega))
            have HO9 : Hid (OwnI w6 (w.heap.size + 1) (.slice A6 ((L.length + 1) + (belowL m n.id).length) c6) (ordTo m (i + 1))) := Lib.hid (by rw [HN2.out]; simpa using own6)
            clear hg6 own6 hHeld
            go_wp2
            go_roundg (m.nodes.length - (i + 1))
            case measure => have := HGI.out; omega
            case rel => exact ⟨i + 1, _, by go_num, rfl, rfl, by omega, HB9.out, HM9.out, HO9.out⟩
      · have hlt' : decide ((i : Int) < m.nodes.length) = false := decide_eq_false (by omega)
        have E := Lib.hid (show ordL m = L from by rw [ordL_yes HCM.out, ← ordTo_all hlt, HL.out])
        clear hb
        go_wp2
        go_ret
        exact ⟨_, rfl, by rw [E.out]; exact HOWN.out.weaken (Nat.le_succ _), HB.out⟩
  · have HC2 := Lib.hid (res_is (rightM_is.2 hc) HC.out)
    have E := Lib.hid (ordL_no hc)
    clear hc HC
    go_enter Tryd.func22, Tryd.ntmps22
    go_wp2_with fail
    refine HC2.out.mono ?_
    rintro _ w2 ⟨rfl, hb2⟩
    have HB2 := Lib.hid (HBA.out.trans (hb2.mono HBA.out.size))
    clear hb2
    go_wp2
    go_ret
    exact ⟨_, rfl, by rw [E.out]; exact OwnI.nil _ _, HB2.out⟩
end Go.Proofs.YtpkapommekkbcaaDoor
end
