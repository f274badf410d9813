import Derived.Test.YtmafhaadcjgcbaaAHasRef
namespace Go.Proofs.Ytmafhaadcjgcbaa
open Go Go.RowKit

def refsOf (m : AModel) (k : Int) : List ARef := (nodeOf m k).refs
def uses (m : AModel) (id : Int) (k : Int) : Bool := hasR (refsOf m k) id
noncomputable def usersTo (m : AModel) (id : Int) (i : Nat) : List Int := ((ordL m).take i).filter (uses m id)
noncomputable def usersR (m : AModel) (id : Int) : List Int := (ordL m).filter (uses m id)
theorem usersTo_all {m : AModel} {id : Int} {i : Nat} (h : ¬ i < (ordL m).length) : usersTo m id i = usersR m id := by
  unfold usersTo usersR; rw [List.take_of_length_le (by omega)]
theorem usersTo_len (m : AModel) (id : Int) (i : Nat) : (usersTo m id i).length ≤ (ordL m).length := filter_len i
theorem usersTo_succ {m : AModel} {id : Int} {i : Nat} (h : i < (ordL m).length) : usersTo m id (i + 1) = usersTo m id i ++ (if uses m id (ordL m)[i] = true then [(ordL m)[i]] else []) := filter_take h
theorem ordL_node {m : AModel} {i : Nat} (h : i < (ordL m).length) : CheckM m ∧ ∃ j, ∃ hj : j < m.nodes.length, m.nodes[j].id = (ordL m)[i] ∧ refsOf m (ordL m)[i] = m.nodes[j].refs := by
  by_cases hc : CheckM m
  · refine ⟨hc, ?_⟩
    have hk : (ordL m)[i] ∈ orderL m := by rw [← ordL_yes hc]; exact List.getElem_mem h
    obtain ⟨y, hy, e⟩ := hc.tree.order_node hk
    obtain ⟨j, hj, rfl⟩ := List.getElem_of_mem hy
    refine ⟨j, hj, e, ?_⟩
    unfold refsOf
    rw [← e, hc.tree.nodeOf hy]
  · rw [ordL_no hc] at h; simp at h
theorem ordL_len {m : AModel} : (ordL m).length ≤ 4096 := by
  by_cases hc : CheckM m
  · rw [ordL_yes hc]; exact Nat.le_trans hc.tree.order_len hc.1.1.2.2
  · rw [ordL_no hc]; simp

set_option maxRecDepth 100000 in
set_option maxHeartbeats 2000000 in
theorem usersA_any (A : Option Addr) (c : Nat) (m : AModel) (w : World) (F : Nat → Prop) (hF : ∀ b, F b → b < w.heap.size) (h : RowOf 7 ENode w F A m.nodes) (hz : ∀ x ∈ m.nodes, NodeOK x) (hl : m.nodes.length ≤ 9223372036854775807) (id : Int) (hid : InR id) :
    Calls Try.prog 30 #[.agg #[.int .i64 m.next, .slice A m.nodes.length c], .int .i64 id] w fun e w' => ∃ v, e = .returned v ∧ OwnI w' w.heap.size v (usersR m id) ∧ Below w.heap.size w w' := by
  have HBA := Lib.hid (((Below.refl w.heap.size w).alloc (Nat.le_refl _) (.cells #[.int .i64 m.next, .slice A m.nodes.length c] 24)).alloc (by simp) (.cells #[.int .i64 id] 3))
  have HC := Lib.hid (order_any A c m _ F (fun b hb => Nat.lt_of_lt_of_le (hF b hb) HBA.out.size) (h.keep ENode.stays (Keep.below HBA.out hF) (fun _ h => h)) hz hl)
  have HH := Lib.hid h
  have HZ := Lib.hid hz
  clear h hz
  go_enter Try.func30, Try.ntmps30
  go_wp2_with fail
  refine HC.out.mono ?_
  rintro _ w2 ⟨vo, rfl, hown, hb2⟩
  obtain ⟨Ao, co, rfl⟩ := hown.shape
  have HB2 := Lib.hid (HBA.out.trans (hb2.mono HBA.out.size))
  have HM2 := Lib.hid (((Blk.new w 24 #[.int .i64 m.next, .slice A m.nodes.length c]).alloc (.cells #[.int .i64 id] 3)).below hb2 (by simp; omega))
  have HI2 := Lib.hid ((Blk.new' (w := w.alloc (.cells #[.int .i64 m.next, .slice A m.nodes.length c] 24)) (g := w.heap.size + 1) (t := 3) (cs := #[.int .i64 id]) (by simp)).below hb2 (by simp))
  have HOR := Lib.hid hown.row.1
  have hol := ordL_len (m := m)
  clear hown hb2 HC HBA
  go_wp2_with fail
  go_loopg [5, 7, 11] (ordL m).length (fun g s5 s7 s11 wx => ∃ (i : Nat) (v : Value), s11 = .int .i64 i ∧ s5 = v ∧ g = (ordL m).length - i ∧ i ≤ (ordL m).length ∧ Below w2.heap.size w2 wx ∧ OwnI wx w2.heap.size v (usersTo m id i))
  case atStart => exact ⟨0, _, rfl, rfl, rfl, Nat.zero_le _, Below.refl _ _, OwnI.nil _ _⟩
  case round =>
    obtain ⟨i, v, rfl, rfl, hgi, hil, hb, hown⟩ := hrel
    have HGI := Lib.hid hgi
    obtain ⟨L, hL⟩ : ∃ L, usersTo m id i = L := ⟨_, rfl⟩
    have hLl : L.length ≤ 4096 := by rw [← hL]; exact Nat.le_trans (usersTo_len m id i) hol
    rw [hL] at hown
    have HL := Lib.hid hL; clear hL hgi
    obtain ⟨A', c', rfl⟩ := hown.shape
    have HB := Lib.hid hb; have HOWN := Lib.hid hown
    have HBW := Lib.hid (HB2.out.trans (hb.mono HB2.out.size))
    have hsz := hb.size
    have hmlt := HM2.out.lt; have hilt := HI2.out.lt
    have HM := Lib.hid (HM2.out.below hb hmlt); have HI := Lib.hid (HI2.out.below hb hilt)
    have m0 := HM.out.cell 0; have m1 := HM.out.cell 1
    simp at m0 m1
    clear hb hown
    by_cases hlt : i < (ordL m).length
    · have hlt' : (i : Int) < (ordL m).length := by omega
      have i0 : (0 : Int) ≤ i := by omega
      obtain ⟨bo, oo, rfl, hboF, o0⟩ := int_at (HOR.out.keep EInt.stays (Keep.below HB.out (fun b h => h)) (F' := fun b => b < w2.heap.size) (fun _ h => h)) hlt
      obtain ⟨hc, j, hj, hje, hre⟩ := ordL_node hlt
      have HNX := Lib.hid (usersTo_succ (id := id) hlt)
      have HRE := Lib.hid hre
      have HS := Lib.hid hc.1.srtB
      have hl4 : m.nodes.length ≤ 4096 := hc.1.1.2.2
      obtain ⟨k, hk⟩ : ∃ k, (ordL m)[i] = k := ⟨_, rfl⟩
      have hkr : InR k := by rw [← hk, ← hje]; have := hc.1.srtB.2 j hj; unfold InR; omega
      have hAT : atI m.nodes k = j := by rw [← hk]; exact atI_some hc.1.srtB.1 hj hje
      rw [hk] at o0 HNX HRE
      clear hc hje hre hk
      obtain ⟨b, off, Sp, cp, Sk, ck, Sr, cr, rfl, hbF, d0, d1, d2, d3, d4, d5, d6, _, _, ⟨hr1, hr2, hr3⟩⟩ := node_at (RowOf.keep ENode.stays (Keep.below HBW.out hF) (F' := F) (fun _ h => h) HH.out) hj
      obtain ⟨x, hx⟩ : ∃ x, m.nodes[j] = x := ⟨_, rfl⟩
      rw [hx] at d0 d1 d2 d3 d4 d5 d6 hr1 hr3 HRE
      have hrl : x.refs.length ≤ 9223372036854775807 := by unfold maxLen at hr2; omega
      have hFw : ∀ b, F b → b < wr.heap.size := fun b hb => Nat.lt_of_lt_of_le (hF b hb) HBW.out.size
      clear hx d0 d1 d2 d3 d4 d5
      go_wp2_with fail
      have CP := Lib.hid (fun (d : Nat) (os : Array Obj) => Calls.regrown_of (w := wr) (d := d) (os := os) (by
        have := place_any (some ⟨b, off, none⟩) c m.next k m.nodes (Sort.grow (redrawn wr d) os) F (fun b hb' => Nat.lt_of_lt_of_le (hFw b hb') (below_regrown wr d os).size) (RowOf.keep ENode.stays (Keep.below (HBW.out.trans ((below_regrown wr d os).mono HBW.out.size)) hF) (F' := F) (fun _ h => h) HH.out) HS.out hkr (by omega)
        rw [hAT] at this; exact this))
      have CH := Lib.hid (fun (u : Bool) (hu : hasR x.refs id = u) (d : Nat) (os : Array Obj) => Calls.regrown_of (w := wr) (d := d) (os := os) (res_is hu (hasRefs_any Sr cr x.refs id (w.heap.size + 1) (Sort.grow (redrawn wr d) os) F (fun b hb' => Nat.lt_of_lt_of_le (hFw b hb') (below_regrown wr d os).size) (hr3.keep ERef.stays (Keep.below (below_regrown wr d os) hFw) (fun _ h => h)) (HI.out.below (below_regrown wr d os) (Nat.lt_of_lt_of_le hilt hsz)) (by omega))))
      have k0 := cell_regrown m0; have k1 := cell_regrown m1; have k6 := cell_regrown d6
      have hj0 : (0 : Int) ≤ j := by omega
      have hj1 : (j : Int) < m.nodes.length := by omega
      clear m0 m1 d6 o0
      rcases hu : hasR x.refs id with _ | _
      · have CH2 := Lib.hid (CH.out _ hu)
        have HN2 : Hid (usersTo m id (i + 1) = L) := Lib.hid (by rw [HNX.out, HL.out]; unfold uses; rw [HRE.out, hu]; simp)
        clear CH hu
        refine wp_region_quiet_below (by kernel_rfl) (by kernel_rfl) ?_
        repeat (first | go_big_quiet_step (first | exact CP.out _ _ | exact CH2.out _ _) | quiet_step (first | exact CP.out _ _ | exact CH2.out _ _))
        refine wpQuiet_nil ?_
        intro _ hw'
        obtain ⟨⟨dq, osq⟩, hw''⟩ := hw'
        subst hw''
        have HW1 := Lib.hid (below_regrown wr dq osq)
        clear CP CH2 k0 k1 k6
        go_wp2
        go_roundg ((ordL m).length - (i + 1))
        case measure => have := HGI.out; omega
        case rel => exact ⟨i + 1, _, by go_num, rfl, rfl, by omega, HB.out.trans (HW1.out.mono hsz), by rw [HN2.out]; exact HOWN.out.below HW1.out⟩
      · have CH2 := Lib.hid (CH.out _ hu)
        have HN2 : Hid (usersTo m id (i + 1) = L ++ [k]) := Lib.hid (by rw [HNX.out, HL.out]; unfold uses; rw [HRE.out, hu]; simp)
        clear CH hu
        refine wp_region_quiet_below (by kernel_rfl) (by kernel_rfl) ?_
        repeat (first | go_big_quiet_step (first | exact CP.out _ _ | exact CH2.out _ _) | quiet_step (first | exact CP.out _ _ | exact CH2.out _ _))
        refine wpQuiet_nil ?_
        intro _ hw'
        obtain ⟨⟨dq, osq⟩, hw''⟩ := hw'
        subst hw''
        have HB3 := Lib.hid (HB.out.trans ((below_regrown wr dq osq).mono hsz))
        have HOW2 := Lib.hid (HOWN.out.below (below_regrown wr dq osq))
        clear CP CH2 k0 k1 k6
        obtain ⟨u, hu⟩ : ∃ u : World, Sort.grow (redrawn wr dq) osq = u := ⟨_, rfl⟩
        rw [hu] at HB3 HOW2 ⊢
        clear hu
        have hsz3 := HB3.out.size
        have HOW3 := Lib.hid (HOW2.out.alloc (.cells #[.int .i64 k] 3))
        go_wp2_with (at_builtin; refine wpList_pushI rfl (.tmp 25) (.tmp 27) rfl ?a1 HOW3.out k u.heap.size ?a2 ?a3 ?a4 ?a5 ?a6)
        case a1 => rfl
        case a2 => rfl
        case a3 => exact Blk.new _ _ _
        case a4 => omega
        case a5 => simp; omega
        case a6 =>
          intro A3 c3 w3 own3 hg3 _
          have HOW4 := Lib.hid own3
          have HB4 := Lib.hid ((HB3.out.alloc hsz3 _).grown hg3 (by simp; omega) (fun b e => (HOW2.out.lt b e).1))
          clear own3 hg3
          go_wp2
          go_roundg ((ordL m).length - (i + 1))
          case measure => have := HGI.out; omega
          case rel => exact ⟨i + 1, _, by go_num, rfl, rfl, by omega, HB4.out, by rw [HN2.out]; simpa using HOW4.out⟩
    · have hlt' : decide ((i : Int) < (ordL m).length) = false := decide_eq_false (by omega)
      have HLL : Hid (usersR m id = L) := Lib.hid (by rw [← HL.out]; exact (usersTo_all hlt).symm)
      clear m0 m1
      go_wp2
      go_ret
      exact ⟨_, rfl, by rw [HLL.out]; exact HOWN.out.weaken HB2.out.size, HBW.out⟩
end Go.Proofs.Ytmafhaadcjgcbaa
