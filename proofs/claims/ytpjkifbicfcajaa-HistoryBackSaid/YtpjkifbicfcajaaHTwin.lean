/- history.twin -/
import Derived.Test.YtpjkifbicfcajaaHMem
import Derived.Test.YtpjkifbicfcajaaHClone
import Derived.Test.YtpjkifbicfcajaaAClone
import Derived.Test.YtpjkifbicfcajaaRegY
set_option linter.unusedSimpArgs false
set_option linter.unusedVariables false
namespace Go.Proofs.Ytpjkifbicfcajaa
open Go Go.RowKit

set_option maxRecDepth 100000 in
set_option maxHeartbeats 2000000 in
theorem htwin_any (A : Option Addr) (c : Nat) (m : AModel) (w : World) (F : Nat → Prop) (hF : ∀ b, F b → b < w.heap.size) (h : RowOf 7 ENode w F A m.nodes) (hz' : ∀ x ∈ m.nodes, LensOK x) (hl : m.nodes.length ≤ 1172812402926) :
    Calls Try.prog 39 #[.agg #[.int .i64 m.next, .slice A m.nodes.length c]] w fun e w' => ∃ v, e = .returned (.agg #[.int .i64 m.next, v]) ∧ ∃ l, OwnM w' w.heap.size v l ∧ l.map LN.n = m.nodes ∧ Below w.heap.size w w' := by
  have HH := Lib.hid h
  have HZ := Lib.hid hz'
  clear h hz'
  go_enter Try.func39, Try.ntmps39
  go_upto_region 1 with fail
  obtain ⟨u0, hu0⟩ : ∃ u : World, (w.alloc (.cells #[.int .i64 m.next, .slice A m.nodes.length c] 27)).alloc (.cells #[.int .i64 0, .slice none 0 0] 27) = u := ⟨_, rfl⟩
  have HB0 : Hid (Below w.heap.size w u0) := Lib.hid (by rw [← hu0]; exact ((Below.refl w.heap.size w).alloc (Nat.le_refl _) _).alloc (by simp) _)
  have HM0 : Hid (Blk u0 w.heap.size 27 #[.int .i64 m.next, .slice A m.nodes.length c]) := Lib.hid (by rw [← hu0]; exact (Blk.new _ _ _).alloc _)
  have HR0 : Hid (Blk u0 (w.heap.size + 1) 27 #[.int .i64 0, .slice none 0 0]) := Lib.hid (by rw [← hu0]; exact Blk.new' (by simp))
  have hF0 : ∀ b, F b → b < u0.heap.size := fun b hb => Nat.lt_of_lt_of_le (hF b hb) HB0.out.size
  have HU : Hid (RowOf 7 ENode u0 F A m.nodes) := Lib.hid (HH.out.keep ENode.stays (Keep.below HB0.out hF) (fun _ h => h))
  obtain ⟨ls, hls, hrd, hcs⟩ := HU.out.lns
  have HLS := Lib.hid hls; have HRD := Lib.hid hrd
  have hll : m.nodes.length = ls.length := by rw [← hls, List.length_map]
  have HCL : Hid (Calls Try.prog 65 #[.slice A m.nodes.length c] u0 fun e w' => ∃ S' c', e = .returned (.slice S' m.nodes.length c') ∧ w'.ownsRow u0.heap.size 79 7 (.slice S' m.nodes.length c') m.nodes.length (ls.flatMap LN.cells) ∧ Below u0.heap.size u0 w') := Lib.hid (cloneN_any A c m.nodes.length (ls.flatMap LN.cells) u0 (by rw [flat_length LN.cells_len, hll]) (fun e => by subst e; rw [HU.out.none_nil]; rfl) hcs (fun ad hA hn => by
      obtain ⟨b, off, e, hb⟩ := HU.out.1 (fun e => by rw [e] at hn; simp at hn)
      rw [hA] at e; cases e; exact hF0 b hb) (fun u hu => by
      obtain ⟨x, hx, hu⟩ := List.mem_flatMap.1 hu
      obtain ⟨⟨a1, b1, e1, _⟩, ⟨a2, b2, e2, _⟩, ⟨a3, b3, e3, _⟩⟩ := hrd x hx
      exact LN.cells_one x ⟨_, _, _, e1⟩ ⟨_, _, _, e2⟩ ⟨_, _, _, e3⟩ u hu) (by omega))
  have m0 := HM0.out.cell 0; have m1 := HM0.out.cell 1
  have mz := HM0.out.frozen 1
  have hmlt := HM0.out.lt
  simp at m0 m1
  (try rw [hu0])
  clear hu0 hls hrd hcs hll
  go_wp2_with fail
  refine HCL.out.mono ?_
  rintro _ w1 ⟨S', c', rfl, hrow, hb1⟩
  have hnl : (.slice S' m.nodes.length c' : Value).oneCell' = true := rfl
  have HROW := Lib.hid hrow
  have HM1 := Lib.hid (HM0.out.below hb1 hmlt); have HR1 := Lib.hid (HR0.out.below hb1 HR0.out.lt)
  have HB1 := Lib.hid (HB0.out.trans (hb1.mono HB0.out.size))
  have HU1 : Hid (Keep F u0 w1) := Lib.hid (Keep.below hb1 hF0)
  have HS1 : Hid (u0.heap.size ≤ w1.heap.size ∧ w.heap.size + 2 ≤ u0.heap.size) := Lib.hid ⟨hb1.size, HR0.out.lt⟩
  clear HB0 HM0 HR0 HCL m0 m1 mz hmlt hrow hb1
  have m0 := HM1.out.cell 0; have m1 := HM1.out.cell 1
  have mz := HM1.out.frozen 1
  have hmlt := HM1.out.lt
  simp at m0 m1
  have HWE : Hid (∃ z, w1.setCell ⟨w.heap.size, 1, none⟩ (.slice S' m.nodes.length c') = z) := Lib.hid ⟨_, rfl⟩
  go_upto_region 2 with fail
  obtain ⟨w2, hu⟩ := HWE.out
  have HM2 : Hid (Blk w2 w.heap.size 27 #[.int .i64 m.next, .slice S' m.nodes.length c']) := Lib.hid (by rw [← hu]; simpa using HM1.out.set_ 1 (.slice S' m.nodes.length c'))
  have HR2 : Hid (Blk w2 (w.heap.size + 1) 27 #[.int .i64 0, .slice none 0 0]) := Lib.hid (by rw [← hu]; exact HR1.out.far (by show w.heap.size + 1 ≠ w.heap.size; omega) _)
  have HB2 : Hid (Below w.heap.size w w2) := Lib.hid (by rw [← hu]; exact HB1.out.setCell (p := ⟨w.heap.size, 1, none⟩) (Nat.le_refl _) _)
  have HU2 : Hid (Keep F u0 w2) := Lib.hid (by rw [← hu]; exact fun q hq => (World.cell?_of_block (Below.heap_setCell _ _ _ _ (by have := hF _ hq; show q.block ≠ w.heap.size; omega))).trans (HU1.out q hq))
  have HH2 : Hid (HalfM w2 (w.heap.size + 2) (.slice S' m.nodes.length c') m.nodes.length [] ls) := Lib.hid (by
      rw [← hu]
      refine ⟨?_, fun _ h => by simp at h, fun b => Nat.le_trans List.count_le_length (by simp [allBlocks])⟩
      have h1 := own_weaken HROW.out HS1.out.2
      exact own_keep h1 fun b e => Below.heap_setCell _ _ _ _ (by have := (h1.lt b e).1; show b ≠ w.heap.size; omega))
  have HS2 : Hid (w.heap.size + 2 ≤ w2.heap.size) := Lib.hid (by rw [← hu]; have := HS1.out; simp; omega)
  (try rw [hu])
  clear HWE hu HM1 HR1 HB1 HU1 HS1 HROW m0 m1 mz hmlt
  have m0 := HM2.out.cell 0; have m1 := HM2.out.cell 1
  have hmlt := HM2.out.lt
  simp at m0 m1
  go_wp2_with fail
  clear m0 m1 hmlt
  go_loopg [3, 4, 12] m.nodes.length (fun g s3 s4 s12 wx => ∃ (i : Nat) (l rest : List LN), s12 = .int .i64 i ∧ g = m.nodes.length - i ∧ i ≤ m.nodes.length ∧ l.length = i ∧ l.map LN.n ++ rest.map LN.n = m.nodes ∧ (∀ x ∈ rest, x ∈ ls) ∧ Below w.heap.size w wx ∧ w.heap.size + 2 ≤ wx.heap.size ∧ Blk wx w.heap.size 27 #[.int .i64 m.next, .slice S' m.nodes.length c'] ∧ Blk wx (w.heap.size + 1) 27 #[.int .i64 0, .slice none 0 0] ∧ Keep F u0 wx ∧ HalfM wx (w.heap.size + 2) (.slice S' m.nodes.length c') m.nodes.length l rest)
  case atStart => exact ⟨0, [], ls, rfl, rfl, Nat.zero_le _, rfl, by simpa using HLS.out, fun _ h => h, HB2.out, HS2.out, HM2.out, HR2.out, HU2.out, HH2.out⟩
  case round =>
    clear HB2 HS2 HM2 HR2 HU2 HH2
    obtain ⟨i, l, rest, rfl, rfl, hil, hli, hlr, hrin, hb, hsz2, hmb, hrb, hku, hhf⟩ := hrel
    subst hli
    have HLR := Lib.hid hlr; have HRI := Lib.hid hrin
    have HB := Lib.hid hb; have HM := Lib.hid hmb; have HR := Lib.hid hrb; have HK := Lib.hid hku; have HF := Lib.hid hhf
    have HLEN : Hid (m.nodes.length = (l ++ rest).length) := Lib.hid (by rw [← hlr]; simp)
    have hsz := hb.size
    have m1 := hmb.cell 1
    have hmlt := hmb.lt; have hrlt := hrb.lt
    simp at m1
    clear hb hmb hrb hku hhf hlr hrin
    by_cases hlt : l.length < m.nodes.length
    · have hlt' : (l.length : Int) < m.nodes.length := by omega
      have i0 : (0 : Int) ≤ (l.length : Int) := by omega
      obtain ⟨x, rest', rfl⟩ : ∃ x r, rest = x :: r := by
        cases rest with
        | nil => have := HLEN.out; simp at this; omega
        | cons x r => exact ⟨x, r, rfl⟩
      obtain ⟨g, cap, e0, hcap1, hcap2, hg1, hg2⟩ := own_some HF.out.row (by omega)
      injection e0 with e1 _ e2
      subst e1; subst e2
      clear hcap2
      have HRDX : Hid (x.Reads u0 F) := Lib.hid (HRD.out x (HRI.out x (by simp)))
      have HZX : Hid (LensOK x.n) := Lib.hid (HZ.out _ (by rw [← HLR.out]; simp))
      obtain ⟨xn, xp, xk, xr⟩ := x
      obtain ⟨⟨Sp, cp, ep, _, _, hp⟩, ⟨Sk, ck, ek, _, _, hk⟩, ⟨Sr, cr, er, _, _, hr⟩⟩ := HRDX.out
      simp only at ep ek er hp hk hr
      subst ep; subst ek; subst er
      have HP := Lib.hid hp; have HKK := Lib.hid hk; have HRR := Lib.hid hr
      have c4 := HF.out.cell HLEN.out (j := 4) (by omega); have c5 := HF.out.cell HLEN.out (j := 5) (by omega); have c6 := HF.out.cell HLEN.out (j := 6) (by omega)
      simp [LN.cells, nodeCellsA] at c4 c5 c6
      have hFw : ∀ b, F b → b < wr.heap.size := fun b hb => Nat.lt_of_lt_of_le (hF b hb) hsz
      clear hp hk hr HRDX
      go_upto_region 6 with fail
      have HSS : Hid (∀ w', HalfM w' (w.heap.size + 2) (.slice (some ⟨g, 0, none⟩) m.nodes.length c') m.nodes.length l (⟨xn, .slice Sp xn.props.length cp, .slice Sk xn.kids.length ck, .slice Sr xn.refs.length cr⟩ :: rest') → (fun w' : World => w'.cell? ⟨g, l.length * 7 + 4, none⟩ = some (.slice Sp xn.props.length cp) ∧ w'.cell? ⟨g, l.length * 7 + 5, none⟩ = some (.slice Sk xn.kids.length ck) ∧ w'.cell? ⟨g, l.length * 7 + 6, none⟩ = some (.slice Sr xn.refs.length cr)) w') := Lib.hid (fun w' h1 => by
        have c4 := h1.cell HLEN.out (j := 4) (by omega); have c5 := h1.cell HLEN.out (j := 5) (by omega); have c6 := h1.cell HLEN.out (j := 6) (by omega)
        simp [LN.cells, nodeCellsA] at c4 c5 c6
        exact ⟨c4, c5, c6⟩)
      obtain ⟨u, hu⟩ : ∃ u : World, wr.drew = u := ⟨_, rfl⟩
      have HU : Hid (Below wr.heap.size wr u) := Lib.hid (by rw [← hu]; exact (Below.refl _ _).drew)
      have HBU := Lib.hid (HB.out.trans (HU.out.mono hsz))
      have HMU := Lib.hid (HM.out.below HU.out hmlt)
      have HRU := Lib.hid (HR.out.below HU.out hrlt)
      have HFU := Lib.hid (HF.out.below HU.out)
      have HKU := Lib.hid (HK.out.trans (Keep.below HU.out hFw))
      have hFu : ∀ b, F b → b < u.heap.size := fun b hb => Nat.lt_of_lt_of_le (hFw b hb) HU.out.size
      have HLU : Hid ((∀ b, some b ∈ ((.slice (some ⟨g, 0, none⟩) m.nodes.length c' : Value).ownBlock :: allBlocks l) → b < u.heap.size) ∧ w.heap.size + 2 ≤ u.heap.size) := Lib.hid ⟨fun b hb => (HFU.out.lt b hb).2, by have := HU.out.size; omega⟩
      clear c4 c5 c6 m1 HB HM HR HF HK hmlt hrlt hFw
      refine wp_region_Y (S := (fun w' : World => w'.cell? ⟨g, l.length * 7 + 4, none⟩ = some (.slice Sp xn.props.length cp) ∧ w'.cell? ⟨g, l.length * 7 + 5, none⟩ = some (.slice Sk xn.kids.length ck) ∧ w'.cell? ⟨g, l.length * 7 + 6, none⟩ = some (.slice Sr xn.refs.length cr))) 20 (by kernel_rfl) (by rw [hu]; exact HSS.out _ HFU.out) (fun hHeld => ?_)
      rw [hu] at hHeld ⊢
      clear hu HU
      refine wpAnyY_take0 (i := 1) (v := ?_) rfl (by kernel_rfl) (by kernel_rfl) (by kernel_rfl) (by kernel_rfl) (fun _ _ _ h => h) (Or.inl ⟨by rfl, ?_⟩) ?_
      rotate_left 1
      · (intro w' _; go_simp); try with_reducible rfl
      try simp only [Act.put, List.setIfInBounds_toArray, List.set_cons_zero, List.set_cons_succ, Nat.zero_add]
      refine wpAnyY_take0 (i := 2) (v := ?_) rfl (by kernel_rfl) (by kernel_rfl) (by kernel_rfl) (by kernel_rfl) (fun _ _ _ h => h) (Or.inl ⟨by rfl, ?_⟩) ?_
      rotate_left 1
      · (intro w' _; go_simp); try with_reducible rfl
      try simp only [Act.put, List.setIfInBounds_toArray, List.set_cons_zero, List.set_cons_succ, Nat.zero_add]
      refine wpAnyY_take0 (i := 8) (v := ?_) rfl (by kernel_rfl) (by kernel_rfl) (by kernel_rfl) (by kernel_rfl) (fun _ _ _ h => h) (Or.inl ⟨by rfl, ?_⟩) ?_
      rotate_left 1
      · (intro w' _; go_simp); try with_reducible rfl
      try simp only [Act.put, List.setIfInBounds_toArray, List.set_cons_zero, List.set_cons_succ, Nat.zero_add]
      refine wpAnyY_take0 (i := 9) (v := ?_) rfl (by kernel_rfl) (by kernel_rfl) (by kernel_rfl) (by kernel_rfl) (fun _ _ _ h => h) (Or.inl ⟨by rfl, ?_⟩) ?_
      rotate_left 1
      · (intro w' _; go_simp); try with_reducible rfl
      try simp only [Act.put, List.setIfInBounds_toArray, List.set_cons_zero, List.set_cons_succ, Nat.zero_add]
      refine wpAnyY_take0 (i := 10) (v := ?_) rfl (by kernel_rfl) (by kernel_rfl) (by kernel_rfl) (by kernel_rfl) (fun _ _ _ h => h) (Or.inl ⟨by rfl, ?_⟩) ?_
      rotate_left 1
      · (intro w' _; go_simp); try with_reducible rfl
      try simp only [Act.put, List.setIfInBounds_toArray, List.set_cons_zero, List.set_cons_succ, Nat.zero_add]
      refine wpAnyY_take0 (i := 13) (v := ?_) rfl (by kernel_rfl) (by kernel_rfl) (by kernel_rfl) (by kernel_rfl) (fun _ _ _ h => h) (Or.inl ⟨by rfl, ?_⟩) ?_
      rotate_left 1
      · (intro w' _; go_simp); try with_reducible rfl
      try simp only [Act.put, List.setIfInBounds_toArray, List.set_cons_zero, List.set_cons_succ, Nat.zero_add]
      refine wpAnyY_take0 (i := 14) (v := ?_) rfl (by kernel_rfl) (by kernel_rfl) (by kernel_rfl) (by kernel_rfl) (fun _ _ _ h => h) (Or.inl ⟨by rfl, ?_⟩) ?_
      rotate_left 1
      · (intro w' _; go_simp); try with_reducible rfl
      try simp only [Act.put, List.setIfInBounds_toArray, List.set_cons_zero, List.set_cons_succ, Nat.zero_add]
      refine wpAnyY_take0 (i := 15) (v := ?_) rfl (by kernel_rfl) (by kernel_rfl) (by kernel_rfl) (by kernel_rfl) (fun _ _ _ h => h) (Or.inl ⟨by rfl, ?_⟩) ?_
      rotate_left 1
      · (intro w' _; go_simp); try with_reducible rfl
      try simp only [Act.put, List.setIfInBounds_toArray, List.set_cons_zero, List.set_cons_succ, Nat.zero_add]
      refine wpAnyY_take (i := 0) (v := ?_) rfl (by kernel_rfl) (by kernel_rfl) (by kernel_rfl) (by kernel_rfl) (fun _ _ _ h => h) (Or.inl ⟨by rfl, ?_⟩) (by assumption) ?_
      rotate_left 1
      · (intro w' hSw; obtain ⟨s0, s1, s2⟩ := hSw; go_simp); try with_reducible rfl
      try simp only [Act.put, List.setIfInBounds_toArray, List.set_cons_zero, List.set_cons_succ, Nat.zero_add]
      refine wpAnyY_take (i := 3) (v := ?_) rfl (by kernel_rfl) (by kernel_rfl) (by kernel_rfl) (by kernel_rfl) (fun _ _ _ h => h) (Or.inl ⟨by rfl, ?_⟩) (by assumption) ?_
      rotate_left 1
      · (intro w' hSw; obtain ⟨s0, s1, s2⟩ := hSw; go_simp); try with_reducible rfl
      try simp only [Act.put, List.setIfInBounds_toArray, List.set_cons_zero, List.set_cons_succ, Nat.zero_add]
      refine wpAnyY_take (i := 4) (v := ?_) rfl (by kernel_rfl) (by kernel_rfl) (by kernel_rfl) (by kernel_rfl) (fun _ _ _ h => h) (Or.inl ⟨by rfl, ?_⟩) (by assumption) ?_
      rotate_left 1
      · (intro w' hSw; obtain ⟨s0, s1, s2⟩ := hSw; go_simp); try with_reducible rfl
      try simp only [Act.put, List.setIfInBounds_toArray, List.set_cons_zero, List.set_cons_succ, Nat.zero_add]
      refine wpAnyY_take (i := 5) (v := ?_) rfl (by kernel_rfl) (by kernel_rfl) (by kernel_rfl) (by kernel_rfl) (fun _ _ _ h => h) (Or.inl ⟨by rfl, ?_⟩) (by assumption) ?_
      rotate_left 1
      · (intro w' hSw; obtain ⟨s0, s1, s2⟩ := hSw; go_simp); try with_reducible rfl
      try simp only [Act.put, List.setIfInBounds_toArray, List.set_cons_zero, List.set_cons_succ, Nat.zero_add]
      refine wpAnyY_take (i := 6) (v := ?_) rfl (by kernel_rfl) (by kernel_rfl) (by kernel_rfl) (by kernel_rfl) (fun _ _ _ h => h) (Or.inl ⟨by rfl, ?_⟩) (by assumption) ?_
      rotate_left 1
      · (intro w' hSw; obtain ⟨s0, s1, s2⟩ := hSw; go_simp); try with_reducible rfl
      try simp only [Act.put, List.setIfInBounds_toArray, List.set_cons_zero, List.set_cons_succ, Nat.zero_add]
      refine wpAnyY_take (i := 11) (v := ?_) rfl (by kernel_rfl) (by kernel_rfl) (by kernel_rfl) (by kernel_rfl) (fun _ _ _ h => h) (Or.inl ⟨by rfl, ?_⟩) (by assumption) ?_
      rotate_left 1
      · (intro w' hSw; obtain ⟨s0, s1, s2⟩ := hSw; go_simp); try with_reducible rfl
      try simp only [Act.put, List.setIfInBounds_toArray, List.set_cons_zero, List.set_cons_succ, Nat.zero_add]
      refine wpAnyY_take (i := 16) (v := ?_) rfl (by kernel_rfl) (by kernel_rfl) (by kernel_rfl) (by kernel_rfl) (fun _ _ _ h => h) (Or.inl ⟨by rfl, ?_⟩) (by assumption) ?_
      rotate_left 1
      · (intro w' hSw; obtain ⟨s0, s1, s2⟩ := hSw; go_simp); try with_reducible rfl
      try simp only [Act.put, List.setIfInBounds_toArray, List.set_cons_zero, List.set_cons_succ, Nat.zero_add]
      refine wpAnyY_one (i := 7) rfl (by kernel_rfl) (fun K hK => ?_)
      go_simp
      refine (cloneProps_any Sp cp xn.props u F hFu (HP.out.keep EProp.stays HKU.out (fun _ h => h)) HZX.out.1).mono ?_
      rintro _ wa ⟨Zp, zp, rfl, hop, hb⟩
      have HOp := Lib.hid hop
      have HBA := Lib.hid (HBU.out.trans (hb.mono HBU.out.size))
      have HMA := Lib.hid (HMU.out.below hb HMU.out.lt)
      have HRA := Lib.hid (HRU.out.below hb HRU.out.lt)
      have HFA := Lib.hid (HFU.out.below hb)
      have HKA := Lib.hid (HKU.out.trans (Keep.below hb hFu))
      have hFa : ∀ b, F b → b < wa.heap.size := fun b hx => Nat.lt_of_lt_of_le (hFu b hx) hb.size
      have HWp := Lib.hid hb
      clear hb hop HBU HMU HRU HFU HKU
      go_simp
      refine hK.out _ _ (fun _ => HSS.out _ HFA.out) ?_
      have hHeldp := HSS.out _ HFA.out
      clear hK K
      try simp only [Act.put, List.setIfInBounds_toArray, List.set_cons_zero, List.set_cons_succ, Nat.zero_add]
      refine wpAnyY_one (i := 12) rfl (by kernel_rfl) (fun K hK => ?_)
      go_simp
      refine (cloneI_any Sk ck xn.kids.length (xn.kids.flatMap intCells) wa (by rw [flat_length intCells_len]) (fun e => by subst e; rw [HKK.out.none_nil]; rfl) (fun ad e => (HKK.out.keep (F' := F) EInt.stays HKA.out (fun _ h => h)).cellsFrom intCells_len ad e) (fun ad e hn => by obtain ⟨b, off, e2, hb⟩ := HKK.out.1 (fun e => by rw [e] at hn; simp at hn); rw [e] at e2; cases e2; exact hFa b hb) (flat_one intCells_one _) HZX.out.2.1).mono ?_
      rintro _ wb ⟨Zk, zk, rfl, hok, hb⟩
      have HOk := Lib.hid hok
      have HBB := Lib.hid (HBA.out.trans (hb.mono HBA.out.size))
      have HMB := Lib.hid (HMA.out.below hb HMA.out.lt)
      have HRB := Lib.hid (HRA.out.below hb HRA.out.lt)
      have HFB := Lib.hid (HFA.out.below hb)
      have HKB := Lib.hid (HKA.out.trans (Keep.below hb hFa))
      have hFb : ∀ b, F b → b < wb.heap.size := fun b hx => Nat.lt_of_lt_of_le (hFa b hx) hb.size
      have HWk := Lib.hid hb
      clear hb hok HBA HMA HRA HFA HKA
      go_simp
      refine hK.out _ _ (fun _ => HSS.out _ HFB.out) ?_
      have hHeldk := HSS.out _ HFB.out
      clear hK K
      try simp only [Act.put, List.setIfInBounds_toArray, List.set_cons_zero, List.set_cons_succ, Nat.zero_add]
      refine wpAnyY_one (i := 17) rfl (by kernel_rfl) (fun K hK => ?_)
      go_simp
      refine (cloneRefs_any Sr cr xn.refs wb F hFb (HRR.out.keep ERef.stays HKB.out (fun _ h => h)) HZX.out.2.2).mono ?_
      rintro _ wc ⟨Zr, zr, rfl, hor, hb⟩
      have HOr := Lib.hid hor
      have HBC := Lib.hid (HBB.out.trans (hb.mono HBB.out.size))
      have HMC := Lib.hid (HMB.out.below hb HMB.out.lt)
      have HRC := Lib.hid (HRB.out.below hb HRB.out.lt)
      have HFC := Lib.hid (HFB.out.below hb)
      have HKC := Lib.hid (HKB.out.trans (Keep.below hb hFb))
      have hFc : ∀ b, F b → b < wc.heap.size := fun b hx => Nat.lt_of_lt_of_le (hFb b hx) hb.size
      have HWr := Lib.hid hb
      clear hb hor HBB HMB HRB HFB HKB
      go_simp
      refine hK.out _ _ (fun _ => HSS.out _ HFC.out) ?_
      have hHeldr := HSS.out _ HFC.out
      clear hK K
      try simp only [Act.put, List.setIfInBounds_toArray, List.set_cons_zero, List.set_cons_succ, Nat.zero_add]
      clear hHeld hHeldp hHeldk
      refine wpAnyY_take0 (i := 18) (v := ?_) rfl (by kernel_rfl) (by kernel_rfl) (by kernel_rfl) (by kernel_rfl) (fun _ _ _ h => h) (Or.inl ⟨by rfl, ?_⟩) ?_
      rotate_left 1
      · (intro w' _; go_simp); try with_reducible rfl
      try simp only [Act.put, List.setIfInBounds_toArray, List.set_cons_zero, List.set_cons_succ, Nat.zero_add]
      refine wpAnyY_take (i := 19) (v := ?_) rfl (by kernel_rfl) (by kernel_rfl) (by kernel_rfl) (by kernel_rfl) (fun _ _ _ h => h) (Or.inl ⟨by rfl, ?_⟩) (by assumption) ?_
      rotate_left 1
      · (intro w' hSw; obtain ⟨s0, s1, s2⟩ := hSw; go_simp); try with_reducible rfl
      try simp only [Act.put, List.setIfInBounds_toArray, List.set_cons_zero, List.set_cons_succ, Nat.zero_add]
      have HOki : Hid (OwnI wb wa.heap.size (.slice Zk xn.kids.length zk) xn.kids) := Lib.hid (by have := HOk.out; rw [intCells_map] at this; exact this)
      have hsu := HLU.out.2
      have hs1 := HWp.out.size; have hs2 := HWk.out.size; have hs3 := HWr.out.size
      have HY : Hid (OwnL wc (w.heap.size + 2) ⟨xn, .slice Zp xn.props.length zp, .slice Zk xn.kids.length zk, .slice Zr xn.refs.length zr⟩) := Lib.hid ⟨own_weaken (own_keep (own_keep HOp.out fun b e => HWk.out.block b (HOp.out.lt b e).2) fun b e => HWr.out.block b (Nat.lt_of_lt_of_le (HOp.out.lt b e).2 hs2)) hsu, (OwnI.weaken (own_keep HOki.out fun b e => HWr.out.block b (HOki.out.lt b e).2) (by omega)), own_weaken HOr.out (by omega)⟩
      have HD : Hid (∀ b, (LN.blocks ⟨xn, .slice Zp xn.props.length zp, .slice Zk xn.kids.length zk, .slice Zr xn.refs.length zr⟩).count (some b) ≤ 1) := Lib.hid (cnt3 (fun b e1 e2 => by have := HOp.out.lt b e1; have := HOk.out.lt b e2; omega) (fun b e1 e2 => by have := HOp.out.lt b e1; have := HOr.out.lt b e2; omega) (fun b e1 e2 => by have := HOk.out.lt b e1; have := HOr.out.lt b e2; omega))
      have HSEP : Hid (∀ b, some b ∈ (LN.blocks ⟨xn, .slice Zp xn.props.length zp, .slice Zk xn.kids.length zk, .slice Zr xn.refs.length zr⟩) → b ≠ g ∧ some b ∉ allBlocks l) := Lib.hid (fun b hb => by
        have hge : u.heap.size ≤ b := by
          simp only [LN.blocks, List.mem_cons, List.not_mem_nil, or_false] at hb
          rcases hb with hb | hb | hb
          · have := HOp.out.lt b hb.symm; omega
          · have := HOk.out.lt b hb.symm; omega
          · have := HOr.out.lt b hb.symm; omega
        exact ⟨fun e => by have := HLU.out.1 g (by simp [Value.ownBlock]); omega, fun e => by have := HLU.out.1 b (List.mem_cons_of_mem _ e); omega⟩)
      have HST : Hid (HalfM (((wc.setCell ⟨g, l.length * 7 + 4, none⟩ (.slice Zp xn.props.length zp)).setCell ⟨g, l.length * 7 + 5, none⟩ (.slice Zk xn.kids.length zk)).setCell ⟨g, l.length * 7 + 6, none⟩ (.slice Zr xn.refs.length zr)) (w.heap.size + 2) (.slice (some ⟨g, 0, none⟩) m.nodes.length c') m.nodes.length (l ++ [⟨xn, .slice Zp xn.props.length zp, .slice Zk xn.kids.length zk, .slice Zr xn.refs.length zr⟩]) rest') := Lib.hid (HalfM.step HFC.out (y := ⟨xn, .slice Zp xn.props.length zp, .slice Zk xn.kids.length zk, .slice Zr xn.refs.length zr⟩) rfl HY.out HD.out HSEP.out HLEN.out)
      obtain ⟨c4, c5, c6⟩ := HSS.out _ HFC.out
      have z4 := own_frozen HFC.out.row (l.length * 7 + 4); have z5 := own_frozen HFC.out.row (l.length * 7 + 5); have z6 := own_frozen HFC.out.row (l.length * 7 + 6)
      obtain ⟨wd, hwd⟩ : ∃ x, wc.setCell ⟨g, l.length * 7 + 4, none⟩ (.slice Zp xn.props.length zp) = x := ⟨_, rfl⟩
      have d5 : wd.cell? ⟨g, l.length * 7 + 5, none⟩ = some (.slice Sk xn.kids.length ck) := by rw [← hwd, World.cell?_setCell_other (h := by simp)]; exact c5
      have d6 : wd.cell? ⟨g, l.length * 7 + 6, none⟩ = some (.slice Sr xn.refs.length cr) := by rw [← hwd, World.cell?_setCell_other (h := by simp)]; exact c6
      have y5 : wd.frozen? ⟨g, l.length * 7 + 5, none⟩ = false := by rw [← hwd, World.frozen?_setCell]; exact z5
      have y6 : wd.frozen? ⟨g, l.length * 7 + 6, none⟩ = false := by rw [← hwd, World.frozen?_setCell]; exact z6
      obtain ⟨we, hwe⟩ : ∃ x, wd.setCell ⟨g, l.length * 7 + 5, none⟩ (.slice Zk xn.kids.length zk) = x := ⟨_, rfl⟩
      have e6 : we.cell? ⟨g, l.length * 7 + 6, none⟩ = some (.slice Sr xn.refs.length cr) := by rw [← hwe, World.cell?_setCell_other (h := by simp)]; exact d6
      have x6 : we.frozen? ⟨g, l.length * 7 + 6, none⟩ = false := by rw [← hwe, World.frozen?_setCell]; exact y6
      obtain ⟨wf, hwf⟩ : ∃ x, we.setCell ⟨g, l.length * 7 + 6, none⟩ (.slice Zr xn.refs.length zr) = x := ⟨_, rfl⟩
      have hgw : w.heap.size + 2 ≤ g := hg1
      have HBF : Hid (Below w.heap.size w wf) := Lib.hid (by rw [← hwf, ← hwe, ← hwd]; exact ((HBC.out.setCell (p := ⟨g, _, none⟩) (by show w.heap.size ≤ g; omega) _).setCell (p := ⟨g, _, none⟩) (by show w.heap.size ≤ g; omega) _).setCell (p := ⟨g, _, none⟩) (by show w.heap.size ≤ g; omega) _)
      have HMF : Hid (Blk wf w.heap.size 27 #[.int .i64 m.next, .slice (some ⟨g, 0, none⟩) m.nodes.length c']) := Lib.hid (by rw [← hwf, ← hwe, ← hwd]; exact ((HMC.out.far (by show w.heap.size ≠ g; omega) _).far (by show w.heap.size ≠ g; omega) _).far (by show w.heap.size ≠ g; omega) _)
      have HRF : Hid (Blk wf (w.heap.size + 1) 27 #[.int .i64 0, .slice none 0 0]) := Lib.hid (by rw [← hwf, ← hwe, ← hwd]; exact ((HRC.out.far (by show w.heap.size + 1 ≠ g; omega) _).far (by show w.heap.size + 1 ≠ g; omega) _).far (by show w.heap.size + 1 ≠ g; omega) _)
      have HKF : Hid (Keep F u0 wf) := Lib.hid (by
        rw [← hwf, ← hwe, ← hwd]
        have ne : ∀ (v : World) (j : Nat) (z : Value), Keep F v (v.setCell ⟨g, j, none⟩ z) := fun v j z q hq => World.cell?_of_block (Below.heap_setCell _ _ _ _ (by have := hF _ hq; show q.block ≠ g; omega))
        exact ((HKC.out.trans (ne _ _ _)).trans (ne _ _ _)).trans (ne _ _ _))
      have HSF : Hid (w.heap.size + 2 ≤ wf.heap.size) := Lib.hid (by rw [← hwf, ← hwe, ← hwd]; simp; omega)
      rw [hwd, hwe, hwf] at HST
      refine wpAnyY_one0 (i := 20) rfl (by kernel_rfl) (by kernel_rfl) (fun K hK => ?_)
      go_simp
      (try rw [hwd])
      refine hK.out _ _ ?_
      clear hK K c4 z4 c5 c6 z5 z6
      try simp only [Act.put, List.setIfInBounds_toArray, List.set_cons_zero, List.set_cons_succ, Nat.zero_add]
      refine wpAnyY_take0 (i := 21) (v := ?_) rfl (by kernel_rfl) (by kernel_rfl) (by kernel_rfl) (by kernel_rfl) (fun _ _ _ h => h) (Or.inl ⟨by rfl, ?_⟩) ?_
      rotate_left 1
      · (intro w' _; go_simp); try with_reducible rfl
      try simp only [Act.put, List.setIfInBounds_toArray, List.set_cons_zero, List.set_cons_succ, Nat.zero_add]
      refine wpAnyY_take0 (i := 22) (v := ?_) rfl (by kernel_rfl) (by kernel_rfl) (by kernel_rfl) (by kernel_rfl) (fun _ _ _ h => h) (Or.inl ⟨by rfl, ?_⟩) ?_
      rotate_left 1
      · (intro w' _; go_simp); try with_reducible rfl
      try simp only [Act.put, List.setIfInBounds_toArray, List.set_cons_zero, List.set_cons_succ, Nat.zero_add]
      refine wpAnyY_one0 (i := 23) rfl (by kernel_rfl) (by kernel_rfl) (fun K hK => ?_)
      go_simp
      (try rw [hwe])
      refine hK.out _ _ ?_
      clear hK K d5 y5 d6 y6
      try simp only [Act.put, List.setIfInBounds_toArray, List.set_cons_zero, List.set_cons_succ, Nat.zero_add]
      refine wpAnyY_take0 (i := 24) (v := ?_) rfl (by kernel_rfl) (by kernel_rfl) (by kernel_rfl) (by kernel_rfl) (fun _ _ _ h => h) (Or.inl ⟨by rfl, ?_⟩) ?_
      rotate_left 1
      · (intro w' _; go_simp); try with_reducible rfl
      try simp only [Act.put, List.setIfInBounds_toArray, List.set_cons_zero, List.set_cons_succ, Nat.zero_add]
      refine wpAnyY_take0 (i := 25) (v := ?_) rfl (by kernel_rfl) (by kernel_rfl) (by kernel_rfl) (by kernel_rfl) (fun _ _ _ h => h) (Or.inl ⟨by rfl, ?_⟩) ?_
      rotate_left 1
      · (intro w' _; go_simp); try with_reducible rfl
      try simp only [Act.put, List.setIfInBounds_toArray, List.set_cons_zero, List.set_cons_succ, Nat.zero_add]
      refine wpAnyY_one0 (i := 26) rfl (by kernel_rfl) (by kernel_rfl) (fun K hK => ?_)
      go_simp
      (try rw [hwf])
      refine hK.out _ _ ?_
      clear hK K e6 x6
      try simp only [Act.put, List.setIfInBounds_toArray, List.set_cons_zero, List.set_cons_succ, Nat.zero_add]
      refine wpAnyY_done (by kernel_rfl) ?_ _
      clear hwd hwe hwf HSS
      go_wp2
      go_roundg (m.nodes.length - (l.length + 1))
      case measure => omega
      case rel => exact ⟨l.length + 1, _, rest', by go_num, rfl, by omega, by simp, by rw [← HLR.out]; simp, fun x hx => HRI.out x (by simp [hx]), HBF.out, HSF.out, HMF.out, HRF.out, HKF.out, HST.out⟩
    · have hlt' : ¬ (l.length : Int) < m.nodes.length := by omega
      have hr0 : rest = [] := by
        have := HLEN.out
        rw [List.length_append] at this
        exact List.eq_nil_of_length_eq_zero (by omega)
      subst hr0
      have m0 := HM.out.cell 0
      have r0 := HR.out.cell 0; have r1 := HR.out.cell 1
      have t0 := HR.out.frozen 0; have t1 := HR.out.frozen 1
      simp at m0 r0 r1
      have HON : Hid (OwnM wr (w.heap.size + 2) (.slice S' m.nodes.length c') l) := Lib.hid (HF.out.own (by have := HLEN.out; simpa using this))
      go_wp2
      have hyS := (HR.out.set_ 0 (.int .i64 m.next)).set_ 1 (.slice S' m.nodes.length c')
      have f0 := hyS.cell 0; have f1 := hyS.cell 1
      simp at f0 f1
      have HBW := Lib.hid ((HB.out.setCell (p := ⟨w.heap.size + 1, 0, none⟩) (Nat.le_succ _) (.int .i64 m.next)).setCell (p := ⟨w.heap.size + 1, 1, none⟩) (Nat.le_succ _) (.slice S' m.nodes.length c'))
      refine bodyPost_ret (v := .agg #[.int .i64 m.next, .slice S' m.nodes.length c']) (by simp [results, Try.results39, go_sem, f0, f1]) rfl ⟨_, rfl, l, ?_, by simpa using HLR.out, HBW.out⟩
      refine (HON.out.keep (fun b h1 _ => ?_)).weaken (by omega)
      exact (Below.heap_setCell _ _ _ _ (by show b ≠ w.heap.size + 1; omega)).trans (Below.heap_setCell _ _ _ _ (by show b ≠ w.heap.size + 1; omega))
end Go.Proofs.Ytpjkifbicfcajaa
