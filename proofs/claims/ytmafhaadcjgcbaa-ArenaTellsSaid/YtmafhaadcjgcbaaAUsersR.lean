import Derived.Test.YtmafhaadcjgcbaaAUsersA
import Derived.Test.YtmafhaadcjgcbaaRegX
import Derived.Test.YtmafhaadcjgcbaaABelow
namespace Go.Proofs.Ytmafhaadcjgcbaa
open Go Go.RowKit

set_option maxRecDepth 100000 in
set_option maxHeartbeats 4000000 in
theorem usersR_any (A : Option Addr) (c : Nat) (m : AModel) (w : World) (F : Nat → Prop) (hF : ∀ b, F b → b < w.heap.size) (h : RowOf 7 ENode w F A m.nodes) (hz : ∀ x ∈ m.nodes, NodeOK x) (hl : m.nodes.length ≤ 9223372036854775807) (id : Int) :
    Calls Try.prog 35 #[.agg #[.int .i64 m.next, .slice A m.nodes.length c], .int .i64 id] w fun e w' => ∃ v, e = .returned v ∧ OwnI w' w.heap.size v (usersR m id) ∧ Below w.heap.size w w' := by
  have HBA := Lib.hid ((Below.refl w.heap.size w).alloc (Nat.le_refl _) (.cells #[.int .i64 m.next, .slice A m.nodes.length c] 24))
  have HC := Lib.hid (rorder_any A c m _ F (fun b hb => Nat.lt_of_lt_of_le (hF b hb) HBA.out.size) (h.keep ENode.stays (Keep.below HBA.out hF) (fun _ h => h)) hz hl)
  have HH := Lib.hid h
  have HZ := Lib.hid hz
  clear h hz
  go_enter Try.func35, Try.ntmps35
  go_wp2_with fail
  refine HC.out.mono ?_
  rintro _ w2 ⟨vo, rfl, hown, hb2⟩
  obtain ⟨Ao, co, rfl⟩ := hown.shape
  have HB2 := Lib.hid (HBA.out.trans (hb2.mono HBA.out.size))
  have HM2 := Lib.hid ((Blk.new w 24 #[.int .i64 m.next, .slice A m.nodes.length c]).below hb2 (by simp))
  have HOR := Lib.hid hown.row.1
  have hol := ordL_len (m := m)
  clear hown hb2 HC HBA
  go_wp2_with fail
  go_loopg [5, 7, 8, 9] (ordL m).length (fun g s5 s7 s8 s9 wx => ∃ (i : Nat) (v : Value), s7 = .int .i64 i ∧ s5 = v ∧ g = (ordL m).length - i ∧ i ≤ (ordL m).length ∧ Below w2.heap.size w2 wx ∧ OwnI wx w2.heap.size v (usersTo m id i))
  case atStart => exact ⟨0, _, rfl, rfl, rfl, Nat.zero_le _, Below.refl _ _, OwnI.nil _ _⟩
  case round =>
    obtain ⟨i, v, rfl, rfl, hgi, hil, hb, hown⟩ := hrel
    have HGI := Lib.hid hgi
    obtain ⟨L, hL⟩ : ∃ L, usersTo m id i = L := ⟨_, rfl⟩
    have hLl : L.length ≤ 4096 := by rw [← hL]; exact Nat.le_trans (usersTo_len m id i) hol
    rw [hL] at hown
    have HL := Lib.hid hL; clear hL hgi
    obtain ⟨A', c', rfl⟩ := hown.shape
    have HB := Lib.hid hb; have HOWN := Lib.hid hown
    have HBW := Lib.hid (HB2.out.trans (hb.mono HB2.out.size))
    have hsz := hb.size
    have hmlt := HM2.out.lt
    have HM := Lib.hid (HM2.out.below hb hmlt)
    have m0 := HM.out.cell 0; have m1 := HM.out.cell 1
    simp at m0 m1
    clear hb hown
    by_cases hlt : i < (ordL m).length
    · have hlt' : (i : Int) < (ordL m).length := by omega
      have i0 : (0 : Int) ≤ i := by omega
      obtain ⟨bo, oo, rfl, hboF, o0⟩ := int_at (HOR.out.keep EInt.stays (Keep.below HB.out (fun b h => h)) (F' := fun b => b < w2.heap.size) (fun _ h => h)) hlt
      obtain ⟨hc, j, hj, hje, hre⟩ := ordL_node hlt
      have HNX := Lib.hid (usersTo_succ (id := id) hlt)
      have HRE := Lib.hid hre
      have HSR := Lib.hid hc.1.srtB
      have hl4 : m.nodes.length ≤ 4096 := hc.1.1.2.2
      obtain ⟨k, hk⟩ : ∃ k, (ordL m)[i] = k := ⟨_, rfl⟩
      have hAT : atI m.nodes k = j := by rw [← hk]; exact atI_some hc.1.srtB.1 hj hje
      have hjk : m.nodes[j].id = k := by rw [← hk]; exact hje
      rw [hk] at o0 HNX HRE
      clear hc hje hre hk
      obtain ⟨b, off, Sp, cp, Sk, ck, Sr, cr, rfl, hbF, d0, d1, d2, d3, d4, d5, d6, _, _, ⟨hr1, hr2, hr3⟩⟩ := node_at (RowOf.keep ENode.stays (Keep.below HBW.out hF) (F' := F) (fun _ h => h) HH.out) hj
      obtain ⟨x, hx⟩ : ∃ x, m.nodes[j] = x := ⟨_, rfl⟩
      rw [hx] at d0 d1 d2 d3 d4 d5 d6 hr1 hr3 HRE hjk
      have hrl : x.refs.length ≤ 9223372036854775807 := by unfold maxLen at hr2; omega
      have hFw : ∀ b, F b → b < wr.heap.size := fun b hb => Nat.lt_of_lt_of_le (hF b hb) HBW.out.size
      have hj0 : (0 : Int) ≤ j := by omega
      have hj1 : (j : Int) < m.nodes.length := by omega
      have HR3 := Lib.hid hr3
      have HJK := Lib.hid hjk
      clear hx hr3 hjk
      go_upto_region 6 with fail
      go_cut [8] (fun s8 wx => ∃ p : Nat, s8 = .pointer (some ⟨p, 0, none⟩) ∧ wr.heap.size ≤ p ∧ Below wr.heap.size wr wx ∧ Blk wx p 38 #[.int .i64 x.id, .string x.concept, .int .i64 x.parent, .string x.role, .slice Sp x.props.length cp, .slice Sk x.kids.length ck, .slice Sr x.refs.length cr])
      case first =>
        obtain ⟨W0, hW0⟩ : ∃ W0 : World, wr.drew = W0 := ⟨_, rfl⟩
        have HW0 : Hid (Below wr.heap.size wr W0) := Lib.hid (by rw [← hW0]; exact (Below.refl _ _).drew)
        have HWS : Hid (W0.heap.size = wr.heap.size) := Lib.hid (by rw [← hW0]; rfl)
        have HS : Hid (∀ w', Below W0.heap.size W0 w' → (fun w' => w'.cell? ⟨w.heap.size, 0, none⟩ = some (.int .i64 m.next) ∧ w'.cell? ⟨w.heap.size, 1, none⟩ = some (.slice (some ⟨b, off, none⟩) m.nodes.length c) ∧ w'.cell? ⟨bo, oo + i, none⟩ = some (.int .i64 k) ∧ w'.cell? ⟨b, off + j * 7, none⟩ = some (.int .i64 x.id) ∧ w'.cell? ⟨b, off + j * 7 + 1, none⟩ = some (.string x.concept) ∧ w'.cell? ⟨b, off + j * 7 + 2, none⟩ = some (.int .i64 x.parent) ∧ w'.cell? ⟨b, off + j * 7 + 3, none⟩ = some (.string x.role) ∧ w'.cell? ⟨b, off + j * 7 + 4, none⟩ = some (.slice Sp x.props.length cp) ∧ w'.cell? ⟨b, off + j * 7 + 5, none⟩ = some (.slice Sk x.kids.length ck) ∧ w'.cell? ⟨b, off + j * 7 + 6, none⟩ = some (.slice Sr x.refs.length cr)) w') := Lib.hid (fun w' hb => by
          have hb' := HW0.out.trans (hb.mono (by rw [HWS.out]; exact Nat.le_refl _))
          exact ⟨(hb'.cell (Nat.lt_of_lt_of_le hmlt hsz)).trans m0, (hb'.cell (Nat.lt_of_lt_of_le hmlt hsz)).trans m1, (hb'.cell (Nat.lt_of_lt_of_le hboF hsz)).trans o0, (hb'.cell (hFw _ hbF)).trans d0, (hb'.cell (hFw _ hbF)).trans d1, (hb'.cell (hFw _ hbF)).trans d2, (hb'.cell (hFw _ hbF)).trans d3, (hb'.cell (hFw _ hbF)).trans d4, (hb'.cell (hFw _ hbF)).trans d5, (hb'.cell (hFw _ hbF)).trans d6⟩)
        have HAT2 : Hid (∀ w', Below W0.heap.size W0 w' → Calls Try.prog 72 #[.agg #[.int .i64 m.next, .slice (some ⟨b, off, none⟩) m.nodes.length c], .int .i64 k] w' fun e w'' => e = .returned (.int .i64 j) ∧ Below w'.heap.size w' w'') := Lib.hid (fun w' hb => by
          have hb' := HBW.out.trans ((HW0.out.trans (hb.mono (by rw [HWS.out]; exact Nat.le_refl _))).mono HBW.out.size)
          have := at_any (some ⟨b, off, none⟩) c m.next k m.nodes w' F (fun b hb2 => Nat.lt_of_lt_of_le (hF b hb2) hb'.size) (RowOf.keep ENode.stays (Keep.below hb' hF) (F' := F) (fun _ h => h) HH.out) HSR.out.1 (by omega)
          rw [hAT] at this; exact this)
        refine wp_region_X (S := (fun w' => w'.cell? ⟨w.heap.size, 0, none⟩ = some (.int .i64 m.next) ∧ w'.cell? ⟨w.heap.size, 1, none⟩ = some (.slice (some ⟨b, off, none⟩) m.nodes.length c) ∧ w'.cell? ⟨bo, oo + i, none⟩ = some (.int .i64 k) ∧ w'.cell? ⟨b, off + j * 7, none⟩ = some (.int .i64 x.id) ∧ w'.cell? ⟨b, off + j * 7 + 1, none⟩ = some (.string x.concept) ∧ w'.cell? ⟨b, off + j * 7 + 2, none⟩ = some (.int .i64 x.parent) ∧ w'.cell? ⟨b, off + j * 7 + 3, none⟩ = some (.string x.role) ∧ w'.cell? ⟨b, off + j * 7 + 4, none⟩ = some (.slice Sp x.props.length cp) ∧ w'.cell? ⟨b, off + j * 7 + 5, none⟩ = some (.slice Sk x.kids.length ck) ∧ w'.cell? ⟨b, off + j * 7 + 6, none⟩ = some (.slice Sr x.refs.length cr))) 11 (by kernel_rfl) (by rw [hW0]; exact HS.out _ (Below.refl _ _)) (fun hHeld => ?_)
        rw [hW0] at hHeld ⊢
        clear m0 m1 o0 d0 d1 d2 d3 d4 d5 d6 hW0
        refine wpAnyX_take (i := 0) (v := ?_) rfl (by kernel_rfl) (by kernel_rfl) (by kernel_rfl) (by kernel_rfl) (fun _ _ _ h => h) (Or.inl ⟨by rfl, ?_⟩) (by assumption) ?_
        rotate_left 1
        · (intro w' hSw; obtain ⟨s0, s1, s2, s3, s4, s5, s6, s7, s8, s9⟩ := hSw; go_simp); try with_reducible rfl
        try simp only [Act.put, List.setIfInBounds_toArray, List.set_cons_zero, List.set_cons_succ, Nat.zero_add]
        refine wpAnyX_take (i := 1) (v := ?_) rfl (by kernel_rfl) (by kernel_rfl) (by kernel_rfl) (by kernel_rfl) (fun _ _ _ h => h) (Or.inl ⟨by rfl, ?_⟩) (by assumption) ?_
        rotate_left 1
        · (intro w' hSw; obtain ⟨s0, s1, s2, s3, s4, s5, s6, s7, s8, s9⟩ := hSw; go_simp); try with_reducible rfl
        try simp only [Act.put, List.setIfInBounds_toArray, List.set_cons_zero, List.set_cons_succ, Nat.zero_add]
        refine wpAnyX_take (i := 2) (v := ?_) rfl (by kernel_rfl) (by kernel_rfl) (by kernel_rfl) (by kernel_rfl) (fun _ _ _ h => h) (Or.inl ⟨by rfl, ?_⟩) (by assumption) ?_
        rotate_left 1
        · (intro w' hSw; obtain ⟨s0, s1, s2, s3, s4, s5, s6, s7, s8, s9⟩ := hSw; go_simp); try with_reducible rfl
        try simp only [Act.put, List.setIfInBounds_toArray, List.set_cons_zero, List.set_cons_succ, Nat.zero_add]
        refine wpAnyX_take (i := 3) (v := ?_) rfl (by kernel_rfl) (by kernel_rfl) (by kernel_rfl) (by kernel_rfl) (fun _ _ _ h => h) (Or.inl ⟨by rfl, ?_⟩) (by assumption) ?_
        rotate_left 1
        · (intro w' hSw; obtain ⟨s0, s1, s2, s3, s4, s5, s6, s7, s8, s9⟩ := hSw; go_simp); try with_reducible rfl
        try simp only [Act.put, List.setIfInBounds_toArray, List.set_cons_zero, List.set_cons_succ, Nat.zero_add]
        refine wpAnyX_take (i := 4) (v := ?_) rfl (by kernel_rfl) (by kernel_rfl) (by kernel_rfl) (by kernel_rfl) (fun _ _ _ h => h) (Or.inl ⟨by rfl, ?_⟩) (by assumption) ?_
        rotate_left 1
        · (intro w' hSw; obtain ⟨s0, s1, s2, s3, s4, s5, s6, s7, s8, s9⟩ := hSw; go_simp); try with_reducible rfl
        try simp only [Act.put, List.setIfInBounds_toArray, List.set_cons_zero, List.set_cons_succ, Nat.zero_add]
        refine wpAnyX_take (i := 5) (v := ?_) rfl (by kernel_rfl) (by kernel_rfl) (by kernel_rfl) (by kernel_rfl) (fun _ _ _ h => h) (Or.inl ⟨by rfl, ?_⟩) (by assumption) ?_
        rotate_left 1
        · (intro w' hSw; obtain ⟨s0, s1, s2, s3, s4, s5, s6, s7, s8, s9⟩ := hSw; go_simp); try with_reducible rfl
        try simp only [Act.put, List.setIfInBounds_toArray, List.set_cons_zero, List.set_cons_succ, Nat.zero_add]
        refine wpAnyX_take (i := 6) (v := ?_) rfl (by kernel_rfl) (by kernel_rfl) (by kernel_rfl) (by kernel_rfl) (fun _ _ _ h => h) (Or.inl ⟨by rfl, ?_⟩) (by assumption) ?_
        rotate_left 1
        · (intro w' hSw; obtain ⟨s0, s1, s2, s3, s4, s5, s6, s7, s8, s9⟩ := hSw; go_simp); try with_reducible rfl
        try simp only [Act.put, List.setIfInBounds_toArray, List.set_cons_zero, List.set_cons_succ, Nat.zero_add]
        refine wpAnyX_two (i := 7) (j := 10) rfl rfl (by kernel_rfl) (fun K hK => ?_) (fun K hK => ?_)
        · go_simp
          have HB0 := Lib.hid (Below.refl W0.heap.size W0)
          refine (HAT2.out _ HB0.out).mono ?_
          rintro _ w5 ⟨rfl, hb5⟩
          have HB5 := Lib.hid (HB0.out.trans (hb5.mono HB0.out.size))
          clear hb5
          go_simp
          refine hK.out _ _ (fun _ => HS.out _ HB5.out) ?_
          clear hK K
          try simp only [Act.put, List.setIfInBounds_toArray, List.set_cons_zero, List.set_cons_succ, Nat.zero_add]
          have hHeld2 := HS.out _ HB5.out
          refine wpAnyX_take (i := 8) (v := ?_) rfl (by kernel_rfl) (by kernel_rfl) (by kernel_rfl) (by kernel_rfl) (fun _ _ _ h => h) (Or.inl ⟨by rfl, ?_⟩) (by assumption) ?_
          rotate_left 1
          · (intro w' hSw; obtain ⟨s0, s1, s2, s3, s4, s5, s6, s7, s8, s9⟩ := hSw; go_simp); try with_reducible rfl
          try simp only [Act.put, List.setIfInBounds_toArray, List.set_cons_zero, List.set_cons_succ, Nat.zero_add]
          refine wpAnyX_take (i := 9) (v := ?_) rfl (by kernel_rfl) (by kernel_rfl) (by kernel_rfl) (by kernel_rfl) (fun _ _ _ h => h) (Or.inl ⟨by rfl, ?_⟩) (by assumption) ?_
          rotate_left 1
          · (intro w' hSw; obtain ⟨s0, s1, s2, s3, s4, s5, s6, s7, s8, s9⟩ := hSw; go_simp); try with_reducible rfl
          try simp only [Act.put, List.setIfInBounds_toArray, List.set_cons_zero, List.set_cons_succ, Nat.zero_add]
          refine wpAnyX_one (i := 10) rfl (by kernel_rfl) (fun K hK => ?_)
          go_simp
          obtain ⟨p, hp⟩ : ∃ p, w5.heap.size = p := ⟨_, rfl⟩
          obtain ⟨u, hu⟩ : ∃ u : World, w5.alloc (.cells #[.int .i64 0, .string ⟨#[]⟩, .int .i64 0, .string ⟨#[]⟩, .slice none 0 0, .slice none 0 0, .slice none 0 0] 38) = u := ⟨_, rfl⟩
          have HBE : Hid (Below W0.heap.size W0 u) := Lib.hid (by rw [← hu]; exact HB5.out.alloc HB5.out.size _)
          have HPB : Hid (Blk u p 38 #[.int .i64 0, .string ⟨#[]⟩, .int .i64 0, .string ⟨#[]⟩, .slice none 0 0, .slice none 0 0, .slice none 0 0]) := Lib.hid (by rw [← hu, ← hp]; exact Blk.new _ _ _)
          have HPG : Hid (W0.heap.size ≤ p) := Lib.hid (by rw [← hp]; exact HB5.out.size)
          rw [hp, hu]
          clear hp hu
          refine hK.out _ _ (fun _ => HS.out _ HBE.out) ?_
          clear hK K
          try simp only [Act.put, List.setIfInBounds_toArray, List.set_cons_zero, List.set_cons_succ, Nat.zero_add]
          refine wpAnyX_one (i := 11) rfl (by kernel_rfl) (fun K hK => ?_)
          have z0 := HPB.out.frozen 0; have z1 := HPB.out.frozen 1; have z2 := HPB.out.frozen 2; have z3 := HPB.out.frozen 3; have z4 := HPB.out.frozen 4; have z5 := HPB.out.frozen 5; have z6 := HPB.out.frozen 6
          have e0 := HPB.out.cell 0; have e1 := HPB.out.cell 1; have e2 := HPB.out.cell 2; have e3 := HPB.out.cell 3; have e4 := HPB.out.cell 4; have e5 := HPB.out.cell 5; have e6 := HPB.out.cell 6
          simp at e0 e1 e2 e3 e4 e5 e6
          go_simp
          refine hK.out _ _ (fun h => absurd rfl h) ?_
          clear hK K
          try simp only [Act.put, List.setIfInBounds_toArray, List.set_cons_zero, List.set_cons_succ, Nat.zero_add]
          refine wpAnyX_done (by kernel_rfl) ?_ _
          have HD := Lib.hid (HPB.out.store7 (b0 := .int .i64 x.id) (b1 := .string x.concept) (b2 := .int .i64 x.parent) (b3 := .string x.role) (b4 := .slice Sp x.props.length cp) (b5 := .slice Sk x.kids.length ck) (b6 := .slice Sr x.refs.length cr))
          have HBF := Lib.hid (below_set7 (b0 := .int .i64 x.id) (b1 := .string x.concept) (b2 := .int .i64 x.parent) (b3 := .string x.role) (b4 := .slice Sp x.props.length cp) (b5 := .slice Sk x.kids.length ck) (b6 := .slice Sr x.refs.length cr) HBE.out HPG.out)
          clear z0 z1 z2 z3 z4 z5 z6 e0 e1 e2 e3 e4 e5 e6
          generalize (((((((u.setCell ⟨p, 0, none⟩ (.int .i64 x.id)).setCell ⟨p, 1, none⟩ (.string x.concept)).setCell ⟨p, 2, none⟩ (.int .i64 x.parent)).setCell ⟨p, 3, none⟩ (.string x.role)).setCell ⟨p, 4, none⟩ (.slice Sp x.props.length cp)).setCell ⟨p, 5, none⟩ (.slice Sk x.kids.length ck)).setCell ⟨p, 6, none⟩ (.slice Sr x.refs.length cr)) = wz at HD HBF ⊢
          clear hHeld hHeld2 HS HAT2 hFw hj0 hj1 hlt' i0
          go_wp2_with fail
          go_meet
          case rel => exact ⟨p, rfl, Nat.le_trans (Nat.le_of_eq HWS.out.symm) HPG.out, HW0.out.trans (HBF.out.mono (Nat.le_of_eq HWS.out.symm)), HD.out⟩
        · go_simp
          obtain ⟨p, hp⟩ : ∃ p, W0.heap.size = p := ⟨_, rfl⟩
          obtain ⟨u, hu⟩ : ∃ u : World, W0.alloc (.cells #[.int .i64 0, .string ⟨#[]⟩, .int .i64 0, .string ⟨#[]⟩, .slice none 0 0, .slice none 0 0, .slice none 0 0] 38) = u := ⟨_, rfl⟩
          have HB0 : Hid (Below W0.heap.size W0 u) := Lib.hid (by rw [← hu]; exact (Below.refl _ _).alloc (Nat.le_refl _) _)
          have HPB0 : Hid (Blk u p 38 #[.int .i64 0, .string ⟨#[]⟩, .int .i64 0, .string ⟨#[]⟩, .slice none 0 0, .slice none 0 0, .slice none 0 0]) := Lib.hid (by rw [← hu, ← hp]; exact Blk.new _ _ _)
          have HPG : Hid (W0.heap.size ≤ p) := Lib.hid (by rw [← hp]; exact Nat.le_refl _)
          rw [hp, hu]
          clear hp hu
          refine hK.out _ _ (fun _ => HS.out _ HB0.out) ?_
          clear hK K
          try simp only [Act.put, List.setIfInBounds_toArray, List.set_cons_zero, List.set_cons_succ, Nat.zero_add]
          refine wpAnyX_one (i := 7) rfl (by kernel_rfl) (fun K hK => ?_)
          go_simp
          refine (HAT2.out _ HB0.out).mono ?_
          rintro _ w5 ⟨rfl, hb5⟩
          have HB5 := Lib.hid (HB0.out.trans (hb5.mono HB0.out.size))
          have HPB := Lib.hid (HPB0.out.below hb5 HPB0.out.lt)
          have HBE := HB5
          clear hb5
          go_simp
          refine hK.out _ _ (fun _ => HS.out _ HBE.out) ?_
          clear hK K
          try simp only [Act.put, List.setIfInBounds_toArray, List.set_cons_zero, List.set_cons_succ, Nat.zero_add]
          have hHeld2 := HS.out _ HBE.out
          refine wpAnyX_take (i := 8) (v := ?_) rfl (by kernel_rfl) (by kernel_rfl) (by kernel_rfl) (by kernel_rfl) (fun _ _ _ h => h) (Or.inl ⟨by rfl, ?_⟩) (by assumption) ?_
          rotate_left 1
          · (intro w' hSw; obtain ⟨s0, s1, s2, s3, s4, s5, s6, s7, s8, s9⟩ := hSw; go_simp); try with_reducible rfl
          try simp only [Act.put, List.setIfInBounds_toArray, List.set_cons_zero, List.set_cons_succ, Nat.zero_add]
          refine wpAnyX_take (i := 9) (v := ?_) rfl (by kernel_rfl) (by kernel_rfl) (by kernel_rfl) (by kernel_rfl) (fun _ _ _ h => h) (Or.inl ⟨by rfl, ?_⟩) (by assumption) ?_
          rotate_left 1
          · (intro w' hSw; obtain ⟨s0, s1, s2, s3, s4, s5, s6, s7, s8, s9⟩ := hSw; go_simp); try with_reducible rfl
          try simp only [Act.put, List.setIfInBounds_toArray, List.set_cons_zero, List.set_cons_succ, Nat.zero_add]
          refine wpAnyX_one (i := 11) rfl (by kernel_rfl) (fun K hK => ?_)
          have z0 := HPB.out.frozen 0; have z1 := HPB.out.frozen 1; have z2 := HPB.out.frozen 2; have z3 := HPB.out.frozen 3; have z4 := HPB.out.frozen 4; have z5 := HPB.out.frozen 5; have z6 := HPB.out.frozen 6
          have e0 := HPB.out.cell 0; have e1 := HPB.out.cell 1; have e2 := HPB.out.cell 2; have e3 := HPB.out.cell 3; have e4 := HPB.out.cell 4; have e5 := HPB.out.cell 5; have e6 := HPB.out.cell 6
          simp at e0 e1 e2 e3 e4 e5 e6
          go_simp
          refine hK.out _ _ (fun h => absurd rfl h) ?_
          clear hK K
          try simp only [Act.put, List.setIfInBounds_toArray, List.set_cons_zero, List.set_cons_succ, Nat.zero_add]
          refine wpAnyX_done (by kernel_rfl) ?_ _
          have HD := Lib.hid (HPB.out.store7 (b0 := .int .i64 x.id) (b1 := .string x.concept) (b2 := .int .i64 x.parent) (b3 := .string x.role) (b4 := .slice Sp x.props.length cp) (b5 := .slice Sk x.kids.length ck) (b6 := .slice Sr x.refs.length cr))
          have HBF := Lib.hid (below_set7 (b0 := .int .i64 x.id) (b1 := .string x.concept) (b2 := .int .i64 x.parent) (b3 := .string x.role) (b4 := .slice Sp x.props.length cp) (b5 := .slice Sk x.kids.length ck) (b6 := .slice Sr x.refs.length cr) HBE.out HPG.out)
          clear z0 z1 z2 z3 z4 z5 z6 e0 e1 e2 e3 e4 e5 e6
          generalize (((((((u.setCell ⟨p, 0, none⟩ (.int .i64 x.id)).setCell ⟨p, 1, none⟩ (.string x.concept)).setCell ⟨p, 2, none⟩ (.int .i64 x.parent)).setCell ⟨p, 3, none⟩ (.string x.role)).setCell ⟨p, 4, none⟩ (.slice Sp x.props.length cp)).setCell ⟨p, 5, none⟩ (.slice Sk x.kids.length ck)).setCell ⟨p, 6, none⟩ (.slice Sr x.refs.length cr)) = wz at HD HBF ⊢
          clear hHeld hHeld2 HS HAT2 hFw hj0 hj1 hlt' i0
          go_wp2_with fail
          go_meet
          case rel => exact ⟨p, rfl, Nat.le_trans (Nat.le_of_eq HWS.out.symm) HPG.out, HW0.out.trans (HBF.out.mono (Nat.le_of_eq HWS.out.symm)), HD.out⟩
      case rest =>
        obtain ⟨p, rfl, hpw, hbc, hxb⟩ := hcut
        have HBC := Lib.hid (HB.out.trans (hbc.mono hsz))
        have HXB := Lib.hid hxb
        have HOW2 := Lib.hid (HOWN.out.below hbc)
        have HR4 := Lib.hid (HR3.out.keep ERef.stays (Keep.below hbc hFw) (F' := F) (fun _ h => h))
        have hszc := HBC.out.size
        clear hAT hxb m0 m1 o0 d0 d1 d2 d3 d4 d5 d6 hbc HR3
        obtain ⟨u, rfl⟩ : ∃ u : World, u = wc := ⟨_, rfl⟩
        go_wp2_with fail
        go_loopg [5, 9] x.refs.length (fun g s5 s9 wx => ∃ n : Nat, s9 = .int .i64 n ∧ s5 = .slice A' L.length c' ∧ g = x.refs.length - n ∧ n ≤ x.refs.length ∧ wx = u ∧ ∀ q (h : q < x.refs.length), q < n → x.refs[q].target ≠ id)
        case atStart => exact ⟨0, rfl, rfl, rfl, Nat.zero_le _, rfl, fun q _ h => absurd h (Nat.not_lt_zero _)⟩
        case round =>
          obtain ⟨n, rfl, rfl, rfl, hnl, rfl, hno⟩ := hrel
          have HNO := Lib.hid hno
          have x6 := HXB.out.cell 6; have x0 := HXB.out.cell 0
          have hplt := HXB.out.lt
          simp at x6 x0
          clear hno
          by_cases hnt : n < x.refs.length
          · have hnt' : (n : Int) < x.refs.length := by omega
            have n0 : (0 : Int) ≤ n := by omega
            obtain ⟨br, orr, rfl, hbrF, r0, r1⟩ := ref_at HR4.out hnt
            by_cases he : x.refs[n].target = id
            · have he' : (x.refs[n].target == id) = true := by simp [he]
              have HN2 : Hid (usersTo m id (i + 1) = L ++ [x.id]) := Lib.hid (by rw [HNX.out, HL.out]; unfold uses; rw [HRE.out, hasR_yes hnt he, HJK.out]; simp)
              clear he r0
              have HOW3 := Lib.hid (HOW2.out.alloc (.cells #[.int .i64 x.id] 3))
              go_wp2_with (at_builtin; refine wpList_pushI rfl (.tmp 43) (.tmp 46) rfl ?a1 HOW3.out x.id wr.heap.size ?a2 ?a3 ?a4 ?a5 ?a6)
              case a1 => rfl
              case a2 => rfl
              case a3 => exact Blk.new _ _ _
              case a4 => omega
              case a5 => simp; omega
              case a6 =>
                intro A3 c3 w3 own3 hg3 _
                have HOW4 := Lib.hid own3
                have HB4 := Lib.hid ((HBC.out.alloc hszc _).grown hg3 (by simp; omega) (fun b e => (HOW2.out.lt b e).1))
                clear own3 hg3
                go_wp2
                go_roundg ((ordL m).length - (i + 1))
                case measure => have := HGI.out; omega
                case rel => exact ⟨i + 1, _, by go_num, rfl, rfl, by omega, HB4.out, by rw [HN2.out]; simpa using HOW4.out⟩
            · have he' : (x.refs[n].target == id) = false := by simp [he]
              have HNE := Lib.hid he
              clear he r0
              go_wp2
              go_roundg (x.refs.length - (n + 1))
              case measure => omega
              case rel => exact ⟨n + 1, by go_num, rfl, rfl, by omega, rfl, fun q hq hqn => by
                rcases Nat.lt_succ_iff_lt_or_eq.1 hqn with h1 | h1
                · exact HNO.out q hq h1
                · subst h1; exact HNE.out⟩
          · have hnt' : ¬ (n : Int) < x.refs.length := by omega
            have HN2 : Hid (usersTo m id (i + 1) = L) := Lib.hid (by rw [HNX.out, HL.out]; unfold uses; rw [HRE.out, hasR_no (fun q hq => HNO.out q hq (by omega))]; simp)
            go_wp2
            go_roundg ((ordL m).length - (i + 1))
            case measure => have := HGI.out; omega
            case rel => exact ⟨i + 1, _, by go_num, rfl, rfl, by omega, HBC.out, by rw [HN2.out]; exact HOW2.out⟩
    · have hlt' : decide ((i : Int) < (ordL m).length) = false := decide_eq_false (by omega)
      have HLL : Hid (usersR m id = L) := Lib.hid (by rw [← HL.out]; exact (usersTo_all hlt).symm)
      clear m0 m1
      go_wp2
      go_ret
      exact ⟨_, rfl, by rw [HLL.out]; exact HOWN.out.weaken HB2.out.size, HBW.out⟩
end Go.Proofs.Ytmafhaadcjgcbaa
