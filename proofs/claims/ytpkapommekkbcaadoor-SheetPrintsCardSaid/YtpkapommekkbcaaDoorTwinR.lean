import Derived.Test.YtpkapommekkbcaaDoorRNode
import Derived.Test.YtpkapommekkbcaaDoorMut2
import Derived.Test.YtpkapommekkbcaaDoorRegX
set_option linter.unusedSimpArgs false
set_option linter.unusedVariables false
namespace Go.Proofs.YtpkapommekkbcaaDoor
open Go Go.RowKit

set_option maxRecDepth 100000 in
set_option maxHeartbeats 2000000 in
theorem twinR_any (A : Option Addr) (c : Nat) (m : AModel) (w : World) (F : Nat → Prop) (hF : ∀ b, F b → b < w.heap.size) (h : RowOf 7 ENode w F A m.nodes) (hz' : ∀ x ∈ m.nodes, LensOK x) (hl : m.nodes.length ≤ 1172812402926) :
    Calls Tryd.prog 5 #[.agg #[.int .i64 m.next, .slice A m.nodes.length c]] w fun e w' => ∃ v, e = .returned (.agg #[.int .i64 m.next, v]) ∧ ∃ l, OwnM w' w.heap.size v l ∧ l.map LN.n = m.nodes ∧ Below w.heap.size w w' := by
  have HH := Lib.hid h
  have HZ := Lib.hid hz'
  clear h hz'
  go_enter Tryd.func5, Tryd.ntmps5
  go_upto_region 2 with fail
  obtain ⟨u0, hu0⟩ : ∃ u : World, ((w.alloc (.cells #[.int .i64 m.next, .slice A m.nodes.length c] 24)).alloc (.cells #[.int .i64 0, .slice none 0 0] 24)).alloc (.cells #[.int .i64 m.next, .slice none 0 0] 24) = u := ⟨_, rfl⟩
  have HB0 : Hid (Below w.heap.size w u0) := Lib.hid (by rw [← hu0]; exact (((Below.refl w.heap.size w).alloc (Nat.le_refl _) _).alloc (by simp) _).alloc (by simp; omega) _)
  have HS0 : Hid (u0.heap.size = w.heap.size + 3) := Lib.hid (by rw [← hu0]; simp)
  have HM0 : Hid (Blk u0 w.heap.size 24 #[.int .i64 m.next, .slice A m.nodes.length c]) := Lib.hid (by rw [← hu0]; exact ((Blk.new _ _ _).alloc _).alloc _)
  have HR0 : Hid (Blk u0 (w.heap.size + 1) 24 #[.int .i64 0, .slice none 0 0]) := Lib.hid (by rw [← hu0]; exact (Blk.new' (by simp)).alloc _)
  have HO0 : Hid (Blk u0 (w.heap.size + 2) 24 #[.int .i64 m.next, .slice none 0 0]) := Lib.hid (by rw [← hu0]; exact Blk.new' (by simp))
  have m1 := HM0.out.cell 1
  have hmlt := HM0.out.lt
  simp at m1
  (try rw [hu0])
  clear hu0
  go_wp2_with fail
  clear m1 hmlt
  go_loopg [4] m.nodes.length (fun g s4 wx => ∃ (i : Nat) (v : Value) (l : List LN), s4 = .int .i64 i ∧ g = m.nodes.length - i ∧ i ≤ m.nodes.length ∧ Below w.heap.size w wx ∧ w.heap.size + 3 ≤ wx.heap.size ∧ Blk wx w.heap.size 24 #[.int .i64 m.next, .slice A m.nodes.length c] ∧ Blk wx (w.heap.size + 1) 24 #[.int .i64 0, .slice none 0 0] ∧ Blk wx (w.heap.size + 2) 24 #[.int .i64 m.next, v] ∧ OwnM wx (w.heap.size + 3) v l ∧ l.map LN.n = m.nodes.take i)
  case atStart => exact ⟨0, _, [], rfl, rfl, Nat.zero_le _, HB0.out, by rw [HS0.out]; exact Nat.le_refl _, HM0.out, HR0.out, HO0.out, OwnM.nil _ _, by simp⟩
  case round =>
    clear HB0 HS0 HM0 HR0 HO0
    obtain ⟨i, v, l, rfl, rfl, hil, hb, hsz3, hmb, hrb, hob, hown, hlm⟩ := hrel
    have hll : l.length = i := by have := congrArg List.length hlm; rw [List.length_map, List.length_take] at this; omega
    subst hll
    have HLM := Lib.hid hlm
    have HB := Lib.hid hb; have HM := Lib.hid hmb; have HR := Lib.hid hrb; have HO := Lib.hid hob; have HOWN := Lib.hid hown
    have hsz := hb.size
    have m1 := hmb.cell 1; have o0 := hob.cell 0; have o1 := hob.cell 1
    have hmlt := hmb.lt; have hrlt := hrb.lt; have holt := hob.lt
    simp at m1 o0 o1
    clear hb hmb hrb hob hown hlm
    by_cases hlt : l.length < m.nodes.length
    · have hlt' : (l.length : Int) < m.nodes.length := by omega
      have i0 : (0 : Int) ≤ (l.length : Int) := by omega
      obtain ⟨b, off, Sp, cp, Sk, ck, Sr, cr, rfl, hbF, d0, d1, d2, d3, d4, d5, d6, hp, hk, hr⟩ := node_at (RowOf.keep ENode.stays (Keep.below HB.out hF) (F' := F) (fun _ h => h) HH.out) hlt
      have hzx := HZ.out _ (List.getElem_mem hlt)
      have HTK : Hid (m.nodes.take (l.length + 1) = m.nodes.take l.length ++ [m.nodes[l.length]]) := Lib.hid (List.take_succ_eq_append_getElem hlt)
      obtain ⟨x, hx⟩ : ∃ x, m.nodes[l.length] = x := ⟨_, rfl⟩
      rw [hx] at d0 d1 d2 d3 d4 d5 d6 hp hk hr hzx HTK
      have HZX := Lib.hid hzx
      have HP := Lib.hid hp.2.2; have HK := Lib.hid hk.2.2; have HRR := Lib.hid hr.2.2
      have hbw : b < wr.heap.size := Nat.lt_of_lt_of_le (hF _ hbF) hsz
      clear hx hp hk hr hzx
      go_wp2_with fail
      obtain ⟨p, hp⟩ : ∃ p, wr.heap.size = p := ⟨_, rfl⟩
      obtain ⟨u, hu⟩ : ∃ u : World, wr.drew = u := ⟨_, rfl⟩
      have HU : Hid (Below wr.heap.size wr u) := Lib.hid (by rw [← hu]; exact (Below.refl _ _).drew)
      have HBU := Lib.hid (HB.out.trans (HU.out.mono hsz))
      have HOU := Lib.hid (HO.out.below HU.out holt)
      have HMU := Lib.hid (HM.out.below HU.out hmlt)
      have HRU := Lib.hid (HR.out.below HU.out hrlt)
      have HWU := Lib.hid (HOWN.out.below HU.out)
      have HSU : Hid (∀ q, some q ∈ (v.ownBlock :: allBlocks l) → q < p) := Lib.hid (fun q hq => by rw [← hp]; exact (HOWN.out.lt q hq).2)
      have HPU : Hid (p ≤ u.heap.size ∧ w.heap.size + 3 ≤ p) := Lib.hid ⟨by have := HU.out.size; omega, by omega⟩
      have HSS : Hid (∀ w', Blk w' (w.heap.size + 2) 24 #[.int .i64 m.next, v] → Below w.heap.size w w' → Blk w' w.heap.size 24 #[.int .i64 m.next, .slice (some ⟨b, off, none⟩) m.nodes.length c] → (fun w' => w'.cell? ⟨w.heap.size + 2, 1, none⟩ = some v ∧ w'.cell? ⟨w.heap.size, 1, none⟩ = some (.slice (some ⟨b, off, none⟩) m.nodes.length c) ∧ w'.cell? ⟨b, off + l.length * 7, none⟩ = some (.int .i64 x.id) ∧ w'.cell? ⟨b, off + l.length * 7 + 1, none⟩ = some (.string x.concept) ∧ w'.cell? ⟨b, off + l.length * 7 + 2, none⟩ = some (.int .i64 x.parent) ∧ w'.cell? ⟨b, off + l.length * 7 + 3, none⟩ = some (.string x.role) ∧ w'.cell? ⟨b, off + l.length * 7 + 4, none⟩ = some (.slice Sp x.props.length cp) ∧ w'.cell? ⟨b, off + l.length * 7 + 5, none⟩ = some (.slice Sk x.kids.length ck) ∧ w'.cell? ⟨b, off + l.length * 7 + 6, none⟩ = some (.slice Sr x.refs.length cr)) w') := Lib.hid (fun w' h1 h2 h3 => by
        have o1 := h1.cell 1; have m1 := h3.cell 1
        simp at o1 m1
        have hq : b < w.heap.size := hF _ hbF
        have kk : ∀ q, w'.cell? ⟨b, q, none⟩ = wr.cell? ⟨b, q, none⟩ := fun q => (h2.cell (p := ⟨b, q, none⟩) hq).trans (HB.out.cell (p := ⟨b, q, none⟩) hq).symm
        exact ⟨o1, m1, (kk _).trans d0, (kk _).trans d1, (kk _).trans d2, (kk _).trans d3, (kk _).trans d4, (kk _).trans d5, (kk _).trans d6⟩)
      clear d0 d1 d2 d3 d4 d5 d6 m1 o0 o1
      refine wp_region_X (S := (fun w' => w'.cell? ⟨w.heap.size + 2, 1, none⟩ = some v ∧ w'.cell? ⟨w.heap.size, 1, none⟩ = some (.slice (some ⟨b, off, none⟩) m.nodes.length c) ∧ w'.cell? ⟨b, off + l.length * 7, none⟩ = some (.int .i64 x.id) ∧ w'.cell? ⟨b, off + l.length * 7 + 1, none⟩ = some (.string x.concept) ∧ w'.cell? ⟨b, off + l.length * 7 + 2, none⟩ = some (.int .i64 x.parent) ∧ w'.cell? ⟨b, off + l.length * 7 + 3, none⟩ = some (.string x.role) ∧ w'.cell? ⟨b, off + l.length * 7 + 4, none⟩ = some (.slice Sp x.props.length cp) ∧ w'.cell? ⟨b, off + l.length * 7 + 5, none⟩ = some (.slice Sk x.kids.length ck) ∧ w'.cell? ⟨b, off + l.length * 7 + 6, none⟩ = some (.slice Sr x.refs.length cr))) 11 (by kernel_rfl) (by rw [hu]; exact HSS.out _ HOU.out HBU.out HMU.out) (fun hHeld => ?_)
      rw [hu] at hHeld ⊢
      clear hu
      refine wpAnyX_take (i := 0) (v := ?_) rfl (by kernel_rfl) (by kernel_rfl) (by kernel_rfl) (by kernel_rfl) (fun _ _ _ h => h) (Or.inl ⟨by rfl, ?_⟩) (by assumption) ?_
      rotate_left 1
      · (intro w' hSw; obtain ⟨s0, s1, s2, s3, s4, s5, s6, s7, s8⟩ := hSw; go_simp); try with_reducible rfl
      try simp only [Act.put, List.setIfInBounds_toArray, List.set_cons_zero, List.set_cons_succ, Nat.zero_add]
      refine wpAnyX_take (i := 1) (v := ?_) rfl (by kernel_rfl) (by kernel_rfl) (by kernel_rfl) (by kernel_rfl) (fun _ _ _ h => h) (Or.inl ⟨by rfl, ?_⟩) (by assumption) ?_
      rotate_left 1
      · (intro w' hSw; obtain ⟨s0, s1, s2, s3, s4, s5, s6, s7, s8⟩ := hSw; go_simp); try with_reducible rfl
      try simp only [Act.put, List.setIfInBounds_toArray, List.set_cons_zero, List.set_cons_succ, Nat.zero_add]
      refine wpAnyX_take (i := 2) (v := ?_) rfl (by kernel_rfl) (by kernel_rfl) (by kernel_rfl) (by kernel_rfl) (fun _ _ _ h => h) (Or.inl ⟨by rfl, ?_⟩) (by assumption) ?_
      rotate_left 1
      · (intro w' hSw; obtain ⟨s0, s1, s2, s3, s4, s5, s6, s7, s8⟩ := hSw; go_simp); try with_reducible rfl
      try simp only [Act.put, List.setIfInBounds_toArray, List.set_cons_zero, List.set_cons_succ, Nat.zero_add]
      refine wpAnyX_take (i := 3) (v := ?_) rfl (by kernel_rfl) (by kernel_rfl) (by kernel_rfl) (by kernel_rfl) (fun _ _ _ h => h) (Or.inl ⟨by rfl, ?_⟩) (by assumption) ?_
      rotate_left 1
      · (intro w' hSw; obtain ⟨s0, s1, s2, s3, s4, s5, s6, s7, s8⟩ := hSw; go_simp); try with_reducible rfl
      try simp only [Act.put, List.setIfInBounds_toArray, List.set_cons_zero, List.set_cons_succ, Nat.zero_add]
      refine wpAnyX_take (i := 4) (v := ?_) rfl (by kernel_rfl) (by kernel_rfl) (by kernel_rfl) (by kernel_rfl) (fun _ _ _ h => h) (Or.inl ⟨by rfl, ?_⟩) (by assumption) ?_
      rotate_left 1
      · (intro w' hSw; obtain ⟨s0, s1, s2, s3, s4, s5, s6, s7, s8⟩ := hSw; go_simp); try with_reducible rfl
      try simp only [Act.put, List.setIfInBounds_toArray, List.set_cons_zero, List.set_cons_succ, Nat.zero_add]
      refine wpAnyX_take (i := 5) (v := ?_) rfl (by kernel_rfl) (by kernel_rfl) (by kernel_rfl) (by kernel_rfl) (fun _ _ _ h => h) (Or.inl ⟨by rfl, ?_⟩) (by assumption) ?_
      rotate_left 1
      · (intro w' hSw; obtain ⟨s0, s1, s2, s3, s4, s5, s6, s7, s8⟩ := hSw; go_simp); try with_reducible rfl
      try simp only [Act.put, List.setIfInBounds_toArray, List.set_cons_zero, List.set_cons_succ, Nat.zero_add]
      refine wpAnyX_take (i := 6) (v := ?_) rfl (by kernel_rfl) (by kernel_rfl) (by kernel_rfl) (by kernel_rfl) (fun _ _ _ h => h) (Or.inl ⟨by rfl, ?_⟩) (by assumption) ?_
      rotate_left 1
      · (intro w' hSw; obtain ⟨s0, s1, s2, s3, s4, s5, s6, s7, s8⟩ := hSw; go_simp); try with_reducible rfl
      try simp only [Act.put, List.setIfInBounds_toArray, List.set_cons_zero, List.set_cons_succ, Nat.zero_add]
      refine wpAnyX_one (i := 7) rfl (by kernel_rfl) (fun K hK => ?_)
      go_simp
      refine (rnode_any x Sp Sk Sr cp ck cr u F (fun b hb => Nat.lt_of_lt_of_le (hF b hb) HBU.out.size) HZX.out (HP.out.keep EProp.stays (Keep.below HU.out (fun b hb => Nat.lt_of_lt_of_le (hF b hb) hsz)) (fun _ h => h)) (HK.out.keep EInt.stays (Keep.below HU.out (fun b hb => Nat.lt_of_lt_of_le (hF b hb) hsz)) (fun _ h => h)) (HRR.out.keep ERef.stays (Keep.below HU.out (fun b hb => Nat.lt_of_lt_of_le (hF b hb) hsz)) (fun _ h => h))).mono ?_
      rintro _ w4 ⟨vp, vk, vr, rfl, hol, hcn, hb4⟩
      have HB4 := Lib.hid (HBU.out.trans (hb4.mono HBU.out.size))
      have HO4 := Lib.hid (HOU.out.below hb4 HOU.out.lt)
      have HM4 := Lib.hid (HMU.out.below hb4 HMU.out.lt)
      have HR4 := Lib.hid (HRU.out.below hb4 HRU.out.lt)
      have HW4 := Lib.hid (HWU.out.below hb4)
      have HL4 := Lib.hid hol; have HC4 := Lib.hid hcn
      have HLT : Hid (∀ q, some q ∈ (LN.blocks ⟨x, vp, vk, vr⟩) → some q ∉ (v.ownBlock :: allBlocks l)) := Lib.hid (fun q h1 h2 => by
        have h3 := (hol.lt q h1).1; have h4 := HSU.out q h2; have h5 := HPU.out.1; omega)
      obtain ⟨Ap, np, rfl⟩ : ∃ A c, vp = .slice A x.props.length c := own_shape hol.p
      obtain ⟨Ak, nk, rfl⟩ : ∃ A c, vk = .slice A x.kids.length c := hol.k.shape
      obtain ⟨Ar, nr, rfl⟩ : ∃ A c, vr = .slice A x.refs.length c := own_shape hol.r
      clear hb4 hol hcn
      go_simp
      refine hK.out _ _ (fun _ => HSS.out _ HO4.out HB4.out HM4.out) ?_
      clear hK K
      try simp only [Act.put, List.setIfInBounds_toArray, List.set_cons_zero, List.set_cons_succ, Nat.zero_add]
      refine wpAnyX_one (i := 8) rfl (by kernel_rfl) (fun K hK => ?_)
      go_simp
      obtain ⟨q, hq⟩ : ∃ q, w4.heap.size = q := ⟨_, rfl⟩
      obtain ⟨u5, hu5⟩ : ∃ u : World, w4.alloc (.cells #[.int .i64 x.id, .string x.concept, .int .i64 x.parent, .string x.role, .slice Ap x.props.length np, .slice Ak x.kids.length nk, .slice Ar x.refs.length nr] 37) = u := ⟨_, rfl⟩
      have HU5 : Hid (Below w4.heap.size w4 u5) := Lib.hid (by rw [← hu5]; exact (Below.refl _ _).alloc (Nat.le_refl _) _)
      have HQ5 : Hid (Blk u5 q 37 #[.int .i64 x.id, .string x.concept, .int .i64 x.parent, .string x.role, .slice Ap x.props.length np, .slice Ak x.kids.length nk, .slice Ar x.refs.length nr]) := Lib.hid (by rw [← hu5, ← hq]; exact Blk.new _ _ _)
      rw [hq, hu5]
      clear hu5 hq
      have HB5 := Lib.hid (HB4.out.trans (HU5.out.mono HB4.out.size))
      have HO5 := Lib.hid (HO4.out.below HU5.out HO4.out.lt)
      have HM5 := Lib.hid (HM4.out.below HU5.out HM4.out.lt)
      have HR5 := Lib.hid (HR4.out.below HU5.out HR4.out.lt)
      have HW5 := Lib.hid (HW4.out.below HU5.out)
      have HL5 := Lib.hid (HL4.out.keep (w' := u5) fun b hb => HU5.out.block b (HL4.out.lt b hb).2)
      clear HB4 HO4 HM4 HR4 HW4 HL4
      refine hK.out _ _ (fun _ => HSS.out _ HO5.out HB5.out HM5.out) ?_
      clear hK K
      try simp only [Act.put, List.setIfInBounds_toArray, List.set_cons_zero, List.set_cons_succ, Nat.zero_add]
      refine wpAnyX_one (i := 9) rfl (by kernel_rfl) (fun K hK => ?_)
      have hb53 : w.heap.size + 3 ≤ u5.heap.size := by have := HQ5.out.lt; have := HU5.out.size; have := HO5.out.lt; omega
      refine step_append_from (P := Tryd.prog) u5 (by rfl) (.tmp 16) (.tmp 23) 22 (by rfl) (w.heap.size + 3) 37 Tryd.underlying22 node_info rfl (by omega) v l.length (l.flatMap LN.cells) (by rfl) HW5.out.row (some ⟨q, 0, none⟩) 1 1 (LN.cells ⟨x, .slice Ap x.props.length np, .slice Ak x.kids.length nk, .slice Ar x.refs.length nr⟩) (by rfl) (by rfl) (by simp) (fun ad e => by cases e; exact news_cells HQ5.out) (fun u hu => by simp only [LN.cells, nodeCellsA, List.mem_cons, List.not_mem_nil, or_false] at hu; rcases hu with rfl | rfl | rfl | rfl | rfl | rfl | rfl <;> rfl) (by unfold maxLen; omega) (by omega) hb53 ?_
      intro A6 c6 w6 own6 hg6 hat6
      have HW6 := Lib.hid (HW5.out.push (HL5.out.weaken (by have := HPU.out; omega)) HC4.out HLT.out own6 hg6 hat6)
      have hrow := fun k (e : v.ownBlock = some k) => (HW5.out.row.lt k e).1
      have HB6 := Lib.hid (HB5.out.grown hg6 HB5.out.size (fun k e => by have := hrow k e; omega))
      have HO6 := Lib.hid (HO5.out.grown hg6 (fun e => by have := hrow _ e.symm; omega))
      have HM6 := Lib.hid (HM5.out.grown hg6 (fun e => by have := hrow _ e.symm; omega))
      have HR6 := Lib.hid (HR5.out.grown hg6 (fun e => by have := hrow _ e.symm; omega))
      clear own6 hg6 hat6 hrow HB5 HO5 HM5 HR5 HW5 HL5
      refine hK.out _ _ (fun _ => HSS.out _ HO6.out HB6.out HM6.out) ?_
      clear hK K
      try simp only [Act.put, List.setIfInBounds_toArray, List.set_cons_zero, List.set_cons_succ, Nat.zero_add]
      have hHeld2 := HSS.out _ HO6.out HB6.out HM6.out
      refine wpAnyX_take (i := 10) (v := ?_) rfl (by kernel_rfl) (by kernel_rfl) (by kernel_rfl) (by kernel_rfl) (fun _ _ _ h => h) (Or.inl ⟨by rfl, ?_⟩) (by assumption) ?_
      rotate_left 1
      · (intro w' hSw; obtain ⟨s0, s1, s2, s3, s4, s5, s6, s7, s8⟩ := hSw; go_simp); try with_reducible rfl
      try simp only [Act.put, List.setIfInBounds_toArray, List.set_cons_zero, List.set_cons_succ, Nat.zero_add]
      clear hHeld2
      refine wpAnyX_one (i := 11) rfl (by kernel_rfl) (fun K hK => ?_)
      have z0 := HO6.out.cell 1; have z1 := HO6.out.frozen 1
      simp at z0
      go_simp
      refine hK.out _ _ (fun h => absurd rfl h) ?_
      clear hK K z0 z1
      try simp only [Act.put, List.setIfInBounds_toArray, List.set_cons_zero, List.set_cons_succ, Nat.zero_add]
      refine wpAnyX_done (by kernel_rfl) ?_ _
      have hll2 : l.length + 1 = l.length + 1 := by omega
      have HB7 := Lib.hid (HB6.out.setCell (p := ⟨w.heap.size + 2, 1, none⟩) (by show w.heap.size ≤ w.heap.size + 2; omega) (.slice A6 (l.length + 1) c6))
      have HO7 := Lib.hid (HO6.out.set_ 1 (.slice A6 (l.length + 1) c6))
      have HM7 := Lib.hid (HM6.out.far (p := ⟨w.heap.size + 2, 1, none⟩) (by show w.heap.size ≠ w.heap.size + 2; omega) (.slice A6 (l.length + 1) c6))
      have HR7 := Lib.hid (HR6.out.far (p := ⟨w.heap.size + 2, 1, none⟩) (by show w.heap.size + 1 ≠ w.heap.size + 2; omega) (.slice A6 (l.length + 1) c6))
      have HW7 := Lib.hid (HW6.out.keep (w' := w6.setCell ⟨w.heap.size + 2, 1, none⟩ (.slice A6 (l.length + 1) c6)) (fun b h1 _ => Below.heap_setCell _ _ _ _ (by show b ≠ w.heap.size + 2; omega)))
      have HS7 : Hid (w.heap.size + 3 ≤ (w6.setCell ⟨w.heap.size + 2, 1, none⟩ (.slice A6 (l.length + 1) c6)).heap.size) := Lib.hid (by have := HO6.out.lt; simp; omega)
      generalize w6.setCell ⟨w.heap.size + 2, 1, none⟩ (.slice A6 (l.length + 1) c6) = w7 at HB7 HO7 HM7 HR7 HW7 HS7 ⊢
      clear hHeld HB6 HO6 HM6 HR6 HW6 hb53 hll2
      go_wp2
      go_roundg (m.nodes.length - (l.length + 1))
      case measure => omega
      case rel => exact ⟨l.length + 1, _, _, by go_num, rfl, by omega, HB7.out, HS7.out, HM7.out, HR7.out, by simpa using HO7.out, HW7.out, by rw [HTK.out, List.map_append, HLM.out]; rfl⟩
    · have hlt' : ¬ (l.length : Int) < m.nodes.length := by omega
      have t0 := HR.out.frozen 0; have t1 := HR.out.frozen 1
      have r0 := HR.out.cell 0; have r1 := HR.out.cell 1
      simp at r0 r1
      obtain ⟨Av, cv, rfl⟩ := own_shape HOWN.out.row
      go_wp2
      have hyS := (HR.out.set_ 0 (.int .i64 m.next)).set_ 1 (.slice Av l.length cv)
      have f0 := hyS.cell 0; have f1 := hyS.cell 1
      simp at f0 f1
      have HBW := Lib.hid ((HB.out.setCell (p := ⟨w.heap.size + 1, 0, none⟩) (Nat.le_succ _) (.int .i64 m.next)).setCell (p := ⟨w.heap.size + 1, 1, none⟩) (Nat.le_succ _) (.slice Av l.length cv))
      refine bodyPost_ret (v := .agg #[.int .i64 m.next, .slice Av l.length cv]) (by simp [results, Tryd.results5, go_sem, f0, f1]) rfl ⟨_, rfl, l, ?_, by rw [HLM.out, List.take_of_length_le (by omega)], HBW.out⟩
      refine (HOWN.out.keep (fun b h1 _ => ?_)).weaken (by omega)
      exact (Below.heap_setCell _ _ _ _ (by show b ≠ w.heap.size + 1; omega)).trans (Below.heap_setCell _ _ _ _ (by show b ≠ w.heap.size + 1; omega))
end Go.Proofs.YtpkapommekkbcaaDoor
