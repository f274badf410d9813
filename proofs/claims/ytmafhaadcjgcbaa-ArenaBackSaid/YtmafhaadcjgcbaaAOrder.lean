import Derived.Test.YtmafhaadcjgcbaaADown
import Derived.Test.YtmafhaadcjgcbaaAUnder2
import Derived.Test.YtmafhaadcjgcbaaRegX
import Derived.Test.YtmafhaadcjgcbaaACheck
set_option linter.unusedSimpArgs false
set_option linter.unusedVariables false
namespace Go.Proofs.Ytmafhaadcjgcbaa
open Go Go.RowKit

def ordTo (m : AModel) (i : Nat) : List Int := (((m.nodes.take i).filter (fun n => n.parent == 0)).map (·.id)).flatMap fun r => r :: belowL m r
theorem ordTo_succ {m : AModel} {i : Nat} (h : i < m.nodes.length) : ordTo m (i + 1) = ordTo m i ++ (if m.nodes[i].parent = 0 then m.nodes[i].id :: belowL m m.nodes[i].id else []) := by
  unfold ordTo
  rw [List.take_succ_eq_append_getElem h, List.filter_append, List.map_append, List.flatMap_append]
  by_cases hp : m.nodes[i].parent = 0 <;> simp [List.filter_cons, hp]
theorem ordTo_all {m : AModel} {i : Nat} (h : ¬ i < m.nodes.length) : ordTo m i = orderL m := by
  unfold ordTo orderL rootsL; rw [List.take_of_length_le (by omega)]
theorem ordTo_len (m : AModel) (i : Nat) : (ordTo m i).length ≤ (orderL m).length := by
  have : orderL m = ordTo m i ++ ((((m.nodes.drop i).filter (fun n => n.parent == 0)).map (·.id)).flatMap fun r => r :: belowL m r) := by
    unfold orderL rootsL ordTo
    rw [← List.flatMap_append, ← List.map_append, ← List.filter_append, List.take_append_drop]
  rw [this, List.length_append]; omega
open Classical in
noncomputable def ordL (m : AModel) : List Int := if CheckM m then orderL m else []
open Classical in
theorem ordL_no {m : AModel} (h : ¬ CheckM m) : ordL m = [] := if_neg h
open Classical in
theorem ordL_yes {m : AModel} (h : CheckM m) : ordL m = orderL m := if_pos h
open Classical in
theorem checkI_yes {m : AModel} (h : CheckM m) : checkI m = 0 := by unfold checkI; rw [decide_eq_true h]; rfl
theorem int_is {f : FuncId} {args : Array Value} {w : World} {p b : Int} {R : World → Prop} (h : p = b) (hc : Calls Try.prog f args w fun e w' => e = .returned (.int .i64 p) ∧ R w') : Calls Try.prog f args w fun e w' => e = .returned (.int .i64 b) ∧ R w' := by
  rw [h] at hc; exact hc
theorem CheckM.kids4 {m : AModel} (h : CheckM m) : ∀ x ∈ m.nodes, x.kids.length ≤ 4096 := fun x hx => by
  have := (h.2.1 x hx).2.2.2.1; have := h.1.1.2.2; omega

set_option maxRecDepth 100000 in
set_option maxHeartbeats 2000000 in
theorem order_any (A : Option Addr) (c : Nat) (m : AModel) (w : World) (F : Nat → Prop) (hF : ∀ b, F b → b < w.heap.size) (h : RowOf 7 ENode w F A m.nodes) (hz : ∀ x ∈ m.nodes, NodeOK x) (hl : m.nodes.length ≤ 9223372036854775807) :
    Calls Try.prog 27 #[.agg #[.int .i64 m.next, .slice A m.nodes.length c]] w fun e w' => ∃ v, e = .returned v ∧ OwnI w' w.heap.size v (ordL m) ∧ Below w.heap.size w w' := by
  have HBA := Lib.hid ((Below.refl w.heap.size w).alloc (Nat.le_refl _) (.cells #[.int .i64 m.next, .slice A m.nodes.length c] 24))
  have HC := Lib.hid (check_any A c m (w.alloc (.cells #[.int .i64 m.next, .slice A m.nodes.length c] 24)) F (fun b hb => Nat.lt_of_lt_of_le (hF b hb) HBA.out.size) (h.keep ENode.stays (Keep.below HBA.out hF) (fun _ h => h)) hz hl)
  have HH := Lib.hid h
  have HZ := Lib.hid hz
  clear h hz
  by_cases hc : CheckM m
  · have HCM := Lib.hid hc
    have HC2 := Lib.hid (int_is (checkI_yes hc) HC.out)
    have HT := Lib.hid hc.tree
    have HS := Lib.hid hc.1.srtB
    have HK4 := Lib.hid hc.kids4
    have hl4 : m.nodes.length ≤ 4096 := hc.1.1.2.2
    have hol := Nat.le_trans hc.tree.order_len hl4
    clear hc HC
    go_enter Try.func27, Try.ntmps27
    go_wp2_with fail
    refine HC2.out.mono ?_
    rintro _ w2 ⟨rfl, hb2⟩
    have HB2 := Lib.hid (HBA.out.trans (hb2.mono HBA.out.size))
    have HM2 := Lib.hid ((Blk.new w 24 #[.int .i64 m.next, .slice A m.nodes.length c]).below hb2 (by simp))
    have m1 := HM2.out.cell 1; have m0 := HM2.out.cell 0
    have hmlt := HM2.out.lt
    simp at m0 m1
    clear hb2 HC2 HBA
    go_wp2_with fail
    clear m0 m1 hmlt
    go_loopg [3, 12] m.nodes.length (fun g s3 s12 wx => ∃ (i : Nat) (v : Value), s12 = .int .i64 i ∧ s3 = v ∧ g = m.nodes.length - i ∧ i ≤ m.nodes.length ∧ Below w.heap.size w wx ∧ Blk wx w.heap.size 24 #[.int .i64 m.next, .slice A m.nodes.length c] ∧ OwnI wx (w.heap.size + 1) v (ordTo m i))
    case atStart => exact ⟨0, _, rfl, rfl, rfl, Nat.zero_le _, HB2.out, HM2.out, OwnI.nil _ _⟩
    case round =>
      clear HB2 HM2
      obtain ⟨i, v, rfl, rfl, hgi, hil, hb, hmb, hown⟩ := hrel
      have HGI := Lib.hid hgi
      obtain ⟨L, hL⟩ : ∃ L, ordTo m i = L := ⟨_, rfl⟩
      have hLl : L.length ≤ 4096 := by rw [← hL]; exact Nat.le_trans (ordTo_len m i) hol
      rw [hL] at hown
      have HL := Lib.hid hL; clear hL hgi
      obtain ⟨A', c', rfl⟩ := hown.shape
      have HB := Lib.hid hb; have HM := Lib.hid hmb; have HOWN := Lib.hid hown
      have m0 := hmb.cell 0; have m1 := hmb.cell 1
      have hmlt := hmb.lt
      have hsz := hb.size
      simp at m0 m1
      clear hmb hown
      by_cases hlt : i < m.nodes.length
      · have hlt' : (i : Int) < m.nodes.length := by omega
        have i0 : (0 : Int) ≤ i := by omega
        obtain ⟨b, off, Sp, cp, Sk, ck, Sr, cr, rfl, hbF, d0, d1, d2, d3, d4, d5, d6, _⟩ := node_at (RowOf.keep ENode.stays (Keep.below hb hF) (F' := F) (fun _ h => h) HH.out) hlt
        have hbw : b < wr.heap.size := Nat.lt_of_lt_of_le (hF _ hbF) hsz
        have HNX := Lib.hid (ordTo_succ hlt)
        have HX := Lib.hid (List.getElem_mem hlt)
        obtain ⟨n, hn⟩ : ∃ n, m.nodes[i] = n := ⟨_, rfl⟩
        rw [hn] at d0 d1 d2 d3 d4 d5 d6 HNX HX
        have HNE := Lib.hid hn
        have HBE := Lib.hid (HT.out.below_len HX.out)
        clear hb hn
        cases hp0 : (n.parent == 0)
        · have HN2 : Hid (ordTo m (i + 1) = L) := Lib.hid (by rw [HNX.out, if_neg (beq_eq_false_iff_ne.1 hp0), HL.out]; simp)
          go_wp2
          go_roundg (m.nodes.length - (i + 1))
          case measure => have := HGI.out; omega
          case rel => exact ⟨i + 1, _, by go_num, rfl, rfl, by omega, HB.out.alloc hsz _, HM.out.alloc _, by rw [HN2.out]; exact HOWN.out.alloc _⟩
        · have HN2 : Hid (ordTo m (i + 1) = L ++ (n.id :: belowL m n.id)) := Lib.hid (by rw [HNX.out, if_pos (beq_iff_eq.1 hp0), HL.out])
          go_wp2_with fail
          obtain ⟨p, hp⟩ : ∃ p, wr.heap.size = p := ⟨_, rfl⟩
          obtain ⟨u, hu⟩ : ∃ u : World, wr.alloc (.cells #[.int .i64 n.id, .string n.concept, .int .i64 n.parent, .string n.role, .slice Sp n.props.length cp, .slice Sk n.kids.length ck, .slice Sr n.refs.length cr] 38) = u := ⟨_, rfl⟩
          have HU : Hid (Below wr.heap.size wr u) := Lib.hid (by rw [← hu]; exact (Below.refl _ _).alloc (Nat.le_refl _) _)
          have HPB : Hid (Blk u p 38 #[.int .i64 n.id, .string n.concept, .int .i64 n.parent, .string n.role, .slice Sp n.props.length cp, .slice Sk n.kids.length ck, .slice Sr n.refs.length cr]) := Lib.hid (by rw [← hu, ← hp]; exact Blk.new _ _ _)
          have HOU := Lib.hid (HOWN.out.below HU.out)
          have HMU := Lib.hid (HM.out.below HU.out hmlt)
          have HBU := Lib.hid (HB.out.trans (HU.out.mono hsz))
          have HAP : Hid (∀ q, (Value.slice A' L.length c').ownBlock = some q → q ≠ p) := Lib.hid (fun q e => by have := (HOWN.out.lt q e).2; omega)
          rw [hu, hp]
          clear hu d0 d1 d2 d3 d4 d5 d6 m0 m1 hp
          have x0 := HPB.out.cell 0; have m0 := HMU.out.cell 0; have m1 := HMU.out.cell 1
          have hplt := HPB.out.lt; have hmlt2 := HMU.out.lt
          have huz := HBU.out.size
          simp at x0 m0 m1
          refine wp_region_X (S := (fun w' => w'.cell? ⟨p, 0, none⟩ = some (.int .i64 n.id) ∧ w'.cell? ⟨w.heap.size, 0, none⟩ = some (.int .i64 m.next) ∧ w'.cell? ⟨w.heap.size, 1, none⟩ = some (.slice (some ⟨b, off, none⟩) m.nodes.length c))) 10 (by kernel_rfl) (by exact ⟨x0, m0, m1⟩) (fun hHeld => ?_)
          refine wpAnyX_take (i := 0) (v := ?_) rfl (by kernel_rfl) (by kernel_rfl) (by kernel_rfl) (by kernel_rfl) (fun _ _ _ h => h) (Or.inl ⟨by rfl, ?_⟩) (by assumption) ?_
          rotate_left 1
          · (intro w' hSw; obtain ⟨s0, s1, s2⟩ := hSw; go_simp); try with_reducible rfl
          try simp only [Act.put]
          try simp only [List.setIfInBounds_toArray]
          try simp only [List.set_cons_succ]
          try simp only [List.set_cons_zero]
          try simp only [Nat.zero_add]
          refine wpAnyX_take (i := 1) (v := ?_) rfl (by kernel_rfl) (by kernel_rfl) (by kernel_rfl) (by kernel_rfl) (fun _ _ _ h => h) (Or.inl ⟨by rfl, ?_⟩) (by assumption) ?_
          rotate_left 1
          · (intro w' hSw; obtain ⟨s0, s1, s2⟩ := hSw; go_simp); try with_reducible rfl
          try simp only [Act.put]
          try simp only [List.setIfInBounds_toArray]
          try simp only [List.set_cons_succ]
          try simp only [List.set_cons_zero]
          try simp only [Nat.zero_add]
          refine wpAnyX_take (i := 2) (v := ?_) rfl (by kernel_rfl) (by kernel_rfl) (by kernel_rfl) (by kernel_rfl) (fun _ _ _ h => h) (Or.inl ⟨by rfl, ?_⟩) (by assumption) ?_
          rotate_left 1
          · (intro w' hSw; obtain ⟨s0, s1, s2⟩ := hSw; go_simp); try with_reducible rfl
          try simp only [Act.put]
          try simp only [List.setIfInBounds_toArray]
          try simp only [List.set_cons_succ]
          try simp only [List.set_cons_zero]
          try simp only [Nat.zero_add]
          refine wpAnyX_take (i := 5) (v := ?_) rfl (by kernel_rfl) (by kernel_rfl) (by kernel_rfl) (by kernel_rfl) (fun _ _ _ h => h) (Or.inl ⟨by rfl, ?_⟩) (by assumption) ?_
          rotate_left 1
          · (intro w' hSw; obtain ⟨s0, s1, s2⟩ := hSw; go_simp); try with_reducible rfl
          try simp only [Act.put]
          try simp only [List.setIfInBounds_toArray]
          try simp only [List.set_cons_succ]
          try simp only [List.set_cons_zero]
          try simp only [Nat.zero_add]
          refine wpAnyX_take (i := 6) (v := ?_) rfl (by kernel_rfl) (by kernel_rfl) (by kernel_rfl) (by kernel_rfl) (fun _ _ _ h => h) (Or.inl ⟨by rfl, ?_⟩) (by assumption) ?_
          rotate_left 1
          · (intro w' hSw; obtain ⟨s0, s1, s2⟩ := hSw; go_simp); try with_reducible rfl
          try simp only [Act.put]
          try simp only [List.setIfInBounds_toArray]
          try simp only [List.set_cons_succ]
          try simp only [List.set_cons_zero]
          try simp only [Nat.zero_add]
          refine wpAnyX_take (i := 7) (v := ?_) rfl (by kernel_rfl) (by kernel_rfl) (by kernel_rfl) (by kernel_rfl) (fun _ _ _ h => h) (Or.inl ⟨by rfl, ?_⟩) (by assumption) ?_
          rotate_left 1
          · (intro w' hSw; obtain ⟨s0, s1, s2⟩ := hSw; go_simp); try with_reducible rfl
          try simp only [Act.put]
          try simp only [List.setIfInBounds_toArray]
          try simp only [List.set_cons_succ]
          try simp only [List.set_cons_zero]
          try simp only [Nat.zero_add]
          refine wpAnyX_one (i := 3) rfl (by kernel_rfl) (fun K hK => ?_)
          go_simp
          refine hK.out _ _ (fun _ => ⟨cell_alloc (w := u) x0 _, cell_alloc (w := u) m0 _, cell_alloc (w := u) m1 _⟩) ?_
          clear hK K
          try simp only [Act.put]
          try simp only [List.setIfInBounds_toArray]
          try simp only [List.set_cons_succ]
          try simp only [List.set_cons_zero]
          try simp only [Nat.zero_add]
          refine wpAnyX_one (i := 4) rfl (by kernel_rfl) (fun K hK => ?_)
          refine step_pushI (by rfl) (.tmp 19) (.tmp 22) (by rfl) (by rfl) ((HOU.out.alloc (.cells #[.int .i64 n.id] 3)).drew) n.id u.heap.size (by rfl) ((Blk.new _ _ _).drew) (by omega) (by simp; omega) ?_
          intro A3 c3 w3 own3 hg3 hat3
          have HOW3 := Lib.hid own3
          have HB3 := Lib.hid (((HBU.out.alloc huz (.cells #[.int .i64 n.id] 3)).drew).grown hg3 (by simp; omega) (fun k e => Nat.le_of_succ_le (HOU.out.lt k e).1))
          have HM3 := Lib.hid (((HMU.out.alloc (.cells #[.int .i64 n.id] 3)).drew).grown hg3 (fun e => by have := (HOU.out.lt _ e.symm).1; omega))
          have HP3 := Lib.hid (((HPB.out.alloc (.cells #[.int .i64 n.id] 3)).drew).grown hg3 (fun e => HAP.out _ e.symm rfl))
          have x3 := HP3.out.cell 0; have y0 := HM3.out.cell 0; have y1 := HM3.out.cell 1
          have hp3 := HP3.out.lt; have hm3 := HM3.out.lt
          simp at x3 y0 y1
          have HAP5 : Hid (∀ q, (Value.slice A3 (L.length + 1) c3).ownBlock = some q → q ≠ p) := Lib.hid (fun q e => by
            rcases hat3 with h3 | h3
            · rw [h3] at e; exact HAP.out q e
            · rw [h3] at e; simp at e; omega)
          clear own3 hg3 hat3
          refine hK.out _ _ (fun _ => ⟨x3, y0, y1⟩) ?_
          clear hK K
          try simp only [Act.put]
          try simp only [List.setIfInBounds_toArray]
          try simp only [List.set_cons_succ]
          try simp only [List.set_cons_zero]
          try simp only [Nat.zero_add]
          refine wpAnyX_one (i := 8) rfl (by kernel_rfl) (fun K hK => ?_)
          go_simp
          refine (under_any (some ⟨b, off, none⟩) c m w3 F (fun b hb => Nat.lt_of_lt_of_le (hF b hb) HB3.out.size) (HH.out.keep ENode.stays (Keep.below HB3.out hF) (fun _ h => h)) HT.out HS.out (fun x hx => (HZ.out x hx).2.2) hl4 n HX.out).mono ?_
          rintro _ w5 ⟨v5, rfl, hown5, hb5⟩
          obtain ⟨A5, c5, rfl⟩ := hown5.shape
          obtain ⟨_, _, e5, _, _, HR5⟩ := hown5.isRow (F := fun b => b < w5.heap.size) (fun b _ h => h)
          injection e5 with e5 e6 e7
          subst e5
          clear e6 e7
          have HRR := Lib.hid HR5
          have HB5 := Lib.hid (HB3.out.trans (hb5.mono HB3.out.size))
          have HM5 := Lib.hid (HM3.out.below hb5 hm3)
          have HOW5 := Lib.hid (HOW3.out.below hb5)
          have x5 := (hb5.cell (p := ⟨p, 0, none⟩) hp3).trans x3
          have z0 := (hb5.cell (p := ⟨w.heap.size, 0, none⟩) hm3).trans y0
          have z1 := (hb5.cell (p := ⟨w.heap.size, 1, none⟩) hm3).trans y1
          have hl5 : (L ++ [n.id]).length = L.length + 1 := by simp
          clear hown5 hb5 HR5
          go_simp
          refine hK.out _ _ (fun _ => ⟨x5, z0, z1⟩) ?_
          clear hK K
          try simp only [Act.put]
          try simp only [List.setIfInBounds_toArray]
          try simp only [List.set_cons_succ]
          try simp only [List.set_cons_zero]
          try simp only [Nat.zero_add]
          refine wpAnyX_one (i := 9) rfl (by kernel_rfl) (fun K hK => ?_)
          refine step_joinI (by rfl) (.tmp 23) (.tmp 27) (by rfl) (by rfl) (v := .slice A3 (L.length + 1) c3) HOW5.out A5 c5 (belowL m n.id) _ (by rfl) HRR.out (by have := HBE.out; simp; omega) (by have := HM5.out.lt; omega) ?_
          intro A6 c6 w6 own6 hg6 _
          rw [hl5] at own6 ⊢
          clear hl5
          refine hK.out _ _ (fun _ => ?s9) ?_
          case s9 => exact ⟨hg6.cell x5 (fun e => HAP5.out _ e.symm rfl), hg6.cell z0 (fun e => by have h7 : w.heap.size + 1 ≤ w.heap.size := (HOW5.out.lt _ e.symm).1; omega), hg6.cell z1 (fun e => by have h7 : w.heap.size + 1 ≤ w.heap.size := (HOW5.out.lt _ e.symm).1; omega)⟩
          clear hK K
          try simp only [Act.put]
          try simp only [List.setIfInBounds_toArray]
          try simp only [List.set_cons_succ]
          try simp only [List.set_cons_zero]
          try simp only [Nat.zero_add]
          refine wpAnyX_one (i := 10) rfl (by kernel_rfl) (fun K hK => ?_)
          go_simp
          refine hK.out _ _ (fun h => absurd rfl h) ?_
          clear hK K
          try simp only [Act.put]
          try simp only [List.setIfInBounds_toArray]
          try simp only [List.set_cons_succ]
          try simp only [List.set_cons_zero]
          try simp only [Nat.zero_add]
          refine wpAnyX_done (by kernel_rfl) ?_ _
          have HB9 := Lib.hid (HB5.out.grown hg6 (HB5.out.size) (fun k e => Nat.le_of_succ_le (HOW5.out.lt k e).1))
          have HM9 := Lib.hid (HM5.out.grown hg6 (fun e => by have := (HOW5.out.lt _ e.symm).1; omega))
          have HO9 : Hid (OwnI w6 (w.heap.size + 1) (.slice A6 ((L.length + 1) + (belowL m n.id).length) c6) (ordTo m (i + 1))) := Lib.hid (by rw [HN2.out]; simpa using own6)
          clear hg6 own6 hHeld
          go_wp2
          go_roundg (m.nodes.length - (i + 1))
          case measure => have := HGI.out; omega
          case rel => exact ⟨i + 1, _, by go_num, rfl, rfl, by omega, HB9.out, HM9.out, HO9.out⟩
      · have hlt' : decide ((i : Int) < m.nodes.length) = false := decide_eq_false (by omega)
        have E := Lib.hid (show ordL m = L from by rw [ordL_yes HCM.out, ← ordTo_all hlt, HL.out])
        clear hb
        go_wp2
        go_ret
        exact ⟨_, rfl, by rw [E.out]; exact HOWN.out.weaken (Nat.le_succ _), HB.out⟩
  · have HC2 := Lib.hid (int_is (checkI_no hc) HC.out)
    have E := Lib.hid (ordL_no hc)
    clear hc HC
    go_enter Try.func27, Try.ntmps27
    go_wp2_with fail
    refine HC2.out.mono ?_
    rintro _ w2 ⟨rfl, hb2⟩
    have HB2 := Lib.hid (HBA.out.trans (hb2.mono HBA.out.size))
    clear hb2
    go_wp2
    go_ret
    exact ⟨_, rfl, by rw [E.out]; exact OwnI.nil _ _, HB2.out⟩

end Go.Proofs.Ytmafhaadcjgcbaa
