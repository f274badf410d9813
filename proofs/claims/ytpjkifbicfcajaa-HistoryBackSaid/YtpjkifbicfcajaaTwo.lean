import Derived.Test.YtpjkifbicfcajaaTwoP
import Derived.Test.YtpjkifbicfcajaaRegY
set_option linter.unusedSimpArgs false
set_option linter.unusedVariables false
/- the two models -/
namespace Go.Proofs.Ytpjkifbicfcajaa
open Go Go.RowKit

set_option maxRecDepth 100000 in
set_option maxHeartbeats 8000000 in
theorem two_any (w : World) : Calls Try.prog 46 #[] w fun e w' => ∃ Aa Ab, e = .returned (.tuple #[.agg #[.int .i64 4, .slice Aa 2 2], .agg #[.int .i64 4, .slice Ab 2 2]]) ∧ Below w.heap.size w w' ∧
    RowOf 7 ENode w' (fun b => w.heap.size ≤ b ∧ b < w'.heap.size) Aa (mK 2).nodes ∧ RowOf 7 ENode w' (fun b => w.heap.size ≤ b ∧ b < w'.heap.size) Ab (mK 3).nodes := by
  obtain ⟨u, hu⟩ : ∃ u : World, ((((((((w.alloc (.cells #[.int .i64 0, .slice none 0 0] 27)).alloc (.cells #[.int .i64 0, .slice none 0 0] 27)).alloc (.cells #[.int .i64 2] 3)).alloc (.cells #[.int .i64 1, .string wA, .int .i64 0, .string wE, .slice none 0 0, .slice (some ⟨w.heap.size + 1 + 1, 0, none⟩) 1 1, .slice none 0 0, .int .i64 2, .string wA, .int .i64 1, .string wR, .slice none 0 0, .slice none 0 0, .slice none 0 0] 79)).alloc (.cells #[.int .i64 4, .slice (some ⟨w.heap.size + 1 + 1 + 1, 0, none⟩) 2 2] 27)).alloc (.cells #[.int .i64 3] 3)).alloc (.cells #[.int .i64 1, .string wA, .int .i64 0, .string wE, .slice none 0 0, .slice (some ⟨w.heap.size + 1 + 1 + 1 + 1 + 1, 0, none⟩) 1 1, .slice none 0 0, .int .i64 3, .string wA, .int .i64 1, .string wR, .slice none 0 0, .slice none 0 0, .slice none 0 0] 79)).alloc (.cells #[.int .i64 4, .slice (some ⟨w.heap.size + 1 + 1 + 1 + 1 + 1 + 1, 0, none⟩) 2 2] 27)) = u := ⟨_, rfl⟩
  have HB : Hid (Below w.heap.size w u) := Lib.hid (by rw [← hu]; exact (((((((((Below.refl w.heap.size w).alloc (Nat.le_refl _) (.cells #[.int .i64 0, .slice none 0 0] 27)).alloc (by simp) (.cells #[.int .i64 0, .slice none 0 0] 27)).alloc (by simp; omega) (.cells #[.int .i64 2] 3)).alloc (by simp; omega) (.cells #[.int .i64 1, .string wA, .int .i64 0, .string wE, .slice none 0 0, .slice (some ⟨w.heap.size + 1 + 1, 0, none⟩) 1 1, .slice none 0 0, .int .i64 2, .string wA, .int .i64 1, .string wR, .slice none 0 0, .slice none 0 0, .slice none 0 0] 79)).alloc (by simp; omega) (.cells #[.int .i64 4, .slice (some ⟨w.heap.size + 1 + 1 + 1, 0, none⟩) 2 2] 27)).alloc (by simp; omega) (.cells #[.int .i64 3] 3)).alloc (by simp; omega) (.cells #[.int .i64 1, .string wA, .int .i64 0, .string wE, .slice none 0 0, .slice (some ⟨w.heap.size + 1 + 1 + 1 + 1 + 1, 0, none⟩) 1 1, .slice none 0 0, .int .i64 3, .string wA, .int .i64 1, .string wR, .slice none 0 0, .slice none 0 0, .slice none 0 0] 79)).alloc (by simp; omega) (.cells #[.int .i64 4, .slice (some ⟨w.heap.size + 1 + 1 + 1 + 1 + 1 + 1, 0, none⟩) 2 2] 27)))
  have H0 : Hid (Blk u (w.heap.size) 27 #[.int .i64 0, .slice none 0 0]) := Lib.hid (by rw [← hu]; exact ((((((((Blk.new _ _ _).alloc _).alloc _).alloc _).alloc _).alloc _).alloc _).alloc _))
  have H1 : Hid (Blk u (w.heap.size + 1) 27 #[.int .i64 0, .slice none 0 0]) := Lib.hid (by rw [← hu]; exact (((((((Blk.new' (by simp)).alloc _).alloc _).alloc _).alloc _).alloc _).alloc _))
  have H2 : Hid (Blk u (w.heap.size + 1 + 1) 3 #[.int .i64 2]) := Lib.hid (by rw [← hu]; exact ((((((Blk.new' (by simp)).alloc _).alloc _).alloc _).alloc _).alloc _))
  have H3 : Hid (Blk u (w.heap.size + 1 + 1 + 1) 79 #[.int .i64 1, .string wA, .int .i64 0, .string wE, .slice none 0 0, .slice (some ⟨w.heap.size + 1 + 1, 0, none⟩) 1 1, .slice none 0 0, .int .i64 2, .string wA, .int .i64 1, .string wR, .slice none 0 0, .slice none 0 0, .slice none 0 0]) := Lib.hid (by rw [← hu]; exact (((((Blk.new' (by simp)).alloc _).alloc _).alloc _).alloc _))
  have H4 : Hid (Blk u (w.heap.size + 1 + 1 + 1 + 1) 27 #[.int .i64 4, .slice (some ⟨w.heap.size + 1 + 1 + 1, 0, none⟩) 2 2]) := Lib.hid (by rw [← hu]; exact ((((Blk.new' (by simp)).alloc _).alloc _).alloc _))
  have H5 : Hid (Blk u (w.heap.size + 1 + 1 + 1 + 1 + 1) 3 #[.int .i64 3]) := Lib.hid (by rw [← hu]; exact (((Blk.new' (by simp)).alloc _).alloc _))
  have H6 : Hid (Blk u (w.heap.size + 1 + 1 + 1 + 1 + 1 + 1) 79 #[.int .i64 1, .string wA, .int .i64 0, .string wE, .slice none 0 0, .slice (some ⟨w.heap.size + 1 + 1 + 1 + 1 + 1, 0, none⟩) 1 1, .slice none 0 0, .int .i64 3, .string wA, .int .i64 1, .string wR, .slice none 0 0, .slice none 0 0, .slice none 0 0]) := Lib.hid (by rw [← hu]; exact ((Blk.new' (by simp)).alloc _))
  have H7 : Hid (Blk u (w.heap.size + 1 + 1 + 1 + 1 + 1 + 1 + 1) 27 #[.int .i64 4, .slice (some ⟨w.heap.size + 1 + 1 + 1 + 1 + 1 + 1, 0, none⟩) 2 2]) := Lib.hid (by rw [← hu]; exact (Blk.new' (by simp)))
  have HSZ : Hid (u.heap.size = w.heap.size + 1 + 1 + 1 + 1 + 1 + 1 + 1 + 1) := Lib.hid (by rw [← hu]; simp)
  go_enter Try.func46, Try.ntmps46
  go_upto_region 3 with fail
  have hu2 := hu
  unfold wA wE wR at hu2
  rw [hu2]
  clear hu hu2
  obtain ⟨v, hv⟩ : ∃ v : World, u.drew = v := ⟨_, rfl⟩
  have hb : Below u.heap.size u v := by rw [← hv]; exact (Below.refl _ _).drew
  have HB2 := Lib.hid (HB.out.trans (hb.mono HB.out.size))
  have G0 := Lib.hid (H0.out.below hb H0.out.lt)
  have G1 := Lib.hid (H1.out.below hb H1.out.lt)
  have G2 := Lib.hid (H2.out.below hb H2.out.lt)
  have G3 := Lib.hid (H3.out.below hb H3.out.lt)
  have G4 := Lib.hid (H4.out.below hb H4.out.lt)
  have G5 := Lib.hid (H5.out.below hb H5.out.lt)
  have G6 := Lib.hid (H6.out.below hb H6.out.lt)
  have G7 := Lib.hid (H7.out.below hb H7.out.lt)
  have GSZ : Hid (v.heap.size = w.heap.size + 1 + 1 + 1 + 1 + 1 + 1 + 1 + 1) := Lib.hid (by rw [← hv]; exact HSZ.out)
  clear hb HB HSZ H0 H1 H2 H3 H4 H5 H6 H7
  have HSS : Hid (∀ w', Blk w' (w.heap.size + 1 + 1 + 1 + 1) 27 #[.int .i64 4, .slice (some ⟨w.heap.size + 1 + 1 + 1, 0, none⟩) 2 2] → Blk w' (w.heap.size + 1 + 1 + 1 + 1 + 1 + 1 + 1) 27 #[.int .i64 4, .slice (some ⟨w.heap.size + 1 + 1 + 1 + 1 + 1 + 1, 0, none⟩) 2 2] → (fun w' : World => w'.cell? ⟨w.heap.size + 1 + 1 + 1 + 1, 0, none⟩ = some (.int .i64 4) ∧ w'.cell? ⟨w.heap.size + 1 + 1 + 1 + 1, 1, none⟩ = some (.slice (some ⟨w.heap.size + 1 + 1 + 1, 0, none⟩) 2 2) ∧ w'.cell? ⟨w.heap.size + 1 + 1 + 1 + 1 + 1 + 1 + 1, 0, none⟩ = some (.int .i64 4) ∧ w'.cell? ⟨w.heap.size + 1 + 1 + 1 + 1 + 1 + 1 + 1, 1, none⟩ = some (.slice (some ⟨w.heap.size + 1 + 1 + 1 + 1 + 1 + 1, 0, none⟩) 2 2)) w') := Lib.hid (fun w' h1 h2 => by
    have m0 := h1.cell 0; have m1 := h1.cell 1; have n0 := h2.cell 0; have n1 := h2.cell 1
    simp at m0 m1 n0 n1
    exact ⟨m0, m1, n0, n1⟩)
  refine wp_region_Y (S := (fun w' : World => w'.cell? ⟨w.heap.size + 1 + 1 + 1 + 1, 0, none⟩ = some (.int .i64 4) ∧ w'.cell? ⟨w.heap.size + 1 + 1 + 1 + 1, 1, none⟩ = some (.slice (some ⟨w.heap.size + 1 + 1 + 1, 0, none⟩) 2 2) ∧ w'.cell? ⟨w.heap.size + 1 + 1 + 1 + 1 + 1 + 1 + 1, 0, none⟩ = some (.int .i64 4) ∧ w'.cell? ⟨w.heap.size + 1 + 1 + 1 + 1 + 1 + 1 + 1, 1, none⟩ = some (.slice (some ⟨w.heap.size + 1 + 1 + 1 + 1 + 1 + 1, 0, none⟩) 2 2))) 3 (by kernel_rfl) (by rw [hv]; exact HSS.out _ G4.out G7.out) (fun hHeld => ?_)
  rw [hv] at hHeld ⊢
  clear hv
  refine wpAnyY_take (i := 0) (v := ?_) rfl (by kernel_rfl) (by kernel_rfl) (by kernel_rfl) (by kernel_rfl) (fun _ _ _ h => h) (Or.inl ⟨by rfl, ?_⟩) (by assumption) ?_
  rotate_left 1
  · (intro w' hSw; obtain ⟨s0, s1, s2, s3⟩ := hSw; go_simp); try with_reducible rfl
  try simp only [Act.put, List.setIfInBounds_toArray, List.set_cons_zero, List.set_cons_succ, Nat.zero_add]
  refine wpAnyY_take (i := 1) (v := ?_) rfl (by kernel_rfl) (by kernel_rfl) (by kernel_rfl) (by kernel_rfl) (fun _ _ _ h => h) (Or.inl ⟨by rfl, ?_⟩) (by assumption) ?_
  rotate_left 1
  · (intro w' hSw; obtain ⟨s0, s1, s2, s3⟩ := hSw; go_simp); try with_reducible rfl
  try simp only [Act.put, List.setIfInBounds_toArray, List.set_cons_zero, List.set_cons_succ, Nat.zero_add]
  refine wpAnyY_one (i := 2) rfl (by kernel_rfl) (fun K hK => ?_)
  have c0 := G0.out.cell 0; have c1 := G0.out.cell 1; have f0 := G0.out.frozen 0; have f1 := G0.out.frozen 1
  simp at c0 c1
  go_simp
  clear c0 c1 f0 f1
  have K0 : Hid (Blk ((v.setCell ⟨w.heap.size, 0, none⟩ (.int .i64 4)).setCell ⟨w.heap.size, 1, none⟩ (.slice (some ⟨w.heap.size + 1 + 1 + 1, 0, none⟩) 2 2)) w.heap.size 27 #[.int .i64 4, .slice (some ⟨w.heap.size + 1 + 1 + 1, 0, none⟩) 2 2]) := Lib.hid (by simpa using (G0.out.set_ 0 (.int .i64 4)).set_ 1 (.slice (some ⟨w.heap.size + 1 + 1 + 1, 0, none⟩) 2 2))
  have K1 := Lib.hid ((G1.out.far (p := ⟨w.heap.size, 0, none⟩) (show w.heap.size + 1 ≠ w.heap.size by omega) (.int .i64 4)).far (p := ⟨w.heap.size, 1, none⟩) (show w.heap.size + 1 ≠ w.heap.size by omega) (.slice (some ⟨w.heap.size + 1 + 1 + 1, 0, none⟩) 2 2))
  have K2 := Lib.hid ((G2.out.far (p := ⟨w.heap.size, 0, none⟩) (show w.heap.size + 1 + 1 ≠ w.heap.size by omega) (.int .i64 4)).far (p := ⟨w.heap.size, 1, none⟩) (show w.heap.size + 1 + 1 ≠ w.heap.size by omega) (.slice (some ⟨w.heap.size + 1 + 1 + 1, 0, none⟩) 2 2))
  have K3 := Lib.hid ((G3.out.far (p := ⟨w.heap.size, 0, none⟩) (show w.heap.size + 1 + 1 + 1 ≠ w.heap.size by omega) (.int .i64 4)).far (p := ⟨w.heap.size, 1, none⟩) (show w.heap.size + 1 + 1 + 1 ≠ w.heap.size by omega) (.slice (some ⟨w.heap.size + 1 + 1 + 1, 0, none⟩) 2 2))
  have K4 := Lib.hid ((G4.out.far (p := ⟨w.heap.size, 0, none⟩) (show w.heap.size + 1 + 1 + 1 + 1 ≠ w.heap.size by omega) (.int .i64 4)).far (p := ⟨w.heap.size, 1, none⟩) (show w.heap.size + 1 + 1 + 1 + 1 ≠ w.heap.size by omega) (.slice (some ⟨w.heap.size + 1 + 1 + 1, 0, none⟩) 2 2))
  have K5 := Lib.hid ((G5.out.far (p := ⟨w.heap.size, 0, none⟩) (show w.heap.size + 1 + 1 + 1 + 1 + 1 ≠ w.heap.size by omega) (.int .i64 4)).far (p := ⟨w.heap.size, 1, none⟩) (show w.heap.size + 1 + 1 + 1 + 1 + 1 ≠ w.heap.size by omega) (.slice (some ⟨w.heap.size + 1 + 1 + 1, 0, none⟩) 2 2))
  have K6 := Lib.hid ((G6.out.far (p := ⟨w.heap.size, 0, none⟩) (show w.heap.size + 1 + 1 + 1 + 1 + 1 + 1 ≠ w.heap.size by omega) (.int .i64 4)).far (p := ⟨w.heap.size, 1, none⟩) (show w.heap.size + 1 + 1 + 1 + 1 + 1 + 1 ≠ w.heap.size by omega) (.slice (some ⟨w.heap.size + 1 + 1 + 1, 0, none⟩) 2 2))
  have K7 := Lib.hid ((G7.out.far (p := ⟨w.heap.size, 0, none⟩) (show w.heap.size + 1 + 1 + 1 + 1 + 1 + 1 + 1 ≠ w.heap.size by omega) (.int .i64 4)).far (p := ⟨w.heap.size, 1, none⟩) (show w.heap.size + 1 + 1 + 1 + 1 + 1 + 1 + 1 ≠ w.heap.size by omega) (.slice (some ⟨w.heap.size + 1 + 1 + 1, 0, none⟩) 2 2))
  have HB3 := Lib.hid ((HB2.out.setCell (p := ⟨w.heap.size, 0, none⟩) (Nat.le_refl _) (.int .i64 4)).setCell (p := ⟨w.heap.size, 1, none⟩) (Nat.le_refl _) (.slice (some ⟨w.heap.size + 1 + 1 + 1, 0, none⟩) 2 2))
  have KSZ : Hid (((v.setCell ⟨w.heap.size, 0, none⟩ (.int .i64 4)).setCell ⟨w.heap.size, 1, none⟩ (.slice (some ⟨w.heap.size + 1 + 1 + 1, 0, none⟩) 2 2)).heap.size = w.heap.size + 1 + 1 + 1 + 1 + 1 + 1 + 1 + 1) := Lib.hid (by simp; exact GSZ.out)
  obtain ⟨v2, hv2⟩ : ∃ v2 : World, (v.setCell ⟨w.heap.size, 0, none⟩ (.int .i64 4)).setCell ⟨w.heap.size, 1, none⟩ (.slice (some ⟨w.heap.size + 1 + 1 + 1, 0, none⟩) 2 2) = v2 := ⟨_, rfl⟩
  rw [hv2] at K0 K1 K2 K3 K4 K5 K6 K7 HB3 KSZ
  rw [hv2]
  clear hv2 G0 G1 G2 G3 G4 G5 G6 G7 GSZ HB2
  refine hK.out _ _ (fun _ => HSS.out _ K4.out K7.out) ?_
  have hHeld2 := HSS.out _ K4.out K7.out
  clear hK K
  try simp only [Act.put, List.setIfInBounds_toArray, List.set_cons_zero, List.set_cons_succ, Nat.zero_add]
  refine wpAnyY_one0 (i := 3) rfl (by kernel_rfl) (by kernel_rfl) (fun K hK => ?_)
  have c0 := K1.out.cell 0; have c1 := K1.out.cell 1; have f0 := K1.out.frozen 0; have f1 := K1.out.frozen 1
  simp at c0 c1
  go_simp
  clear c0 c1 f0 f1
  refine hK.out _ _ ?_
  clear hK K
  try simp only [Act.put, List.setIfInBounds_toArray, List.set_cons_zero, List.set_cons_succ, Nat.zero_add]
  refine wpAnyY_done (by kernel_rfl) ?_ _
  have L1 : Hid (Blk ((v2.setCell ⟨w.heap.size + 1, 0, none⟩ (.int .i64 4)).setCell ⟨w.heap.size + 1, 1, none⟩ (.slice (some ⟨w.heap.size + 1 + 1 + 1 + 1 + 1 + 1, 0, none⟩) 2 2)) (w.heap.size + 1) 27 #[.int .i64 4, .slice (some ⟨w.heap.size + 1 + 1 + 1 + 1 + 1 + 1, 0, none⟩) 2 2]) := Lib.hid (by simpa using (K1.out.set_ 0 (.int .i64 4)).set_ 1 (.slice (some ⟨w.heap.size + 1 + 1 + 1 + 1 + 1 + 1, 0, none⟩) 2 2))
  have L0 := Lib.hid ((K0.out.far (p := ⟨w.heap.size + 1, 0, none⟩) (show w.heap.size ≠ w.heap.size + 1 by omega) (.int .i64 4)).far (p := ⟨w.heap.size + 1, 1, none⟩) (show w.heap.size ≠ w.heap.size + 1 by omega) (.slice (some ⟨w.heap.size + 1 + 1 + 1 + 1 + 1 + 1, 0, none⟩) 2 2))
  have L2 := Lib.hid ((K2.out.far (p := ⟨w.heap.size + 1, 0, none⟩) (show w.heap.size + 1 + 1 ≠ w.heap.size + 1 by omega) (.int .i64 4)).far (p := ⟨w.heap.size + 1, 1, none⟩) (show w.heap.size + 1 + 1 ≠ w.heap.size + 1 by omega) (.slice (some ⟨w.heap.size + 1 + 1 + 1 + 1 + 1 + 1, 0, none⟩) 2 2))
  have L3 := Lib.hid ((K3.out.far (p := ⟨w.heap.size + 1, 0, none⟩) (show w.heap.size + 1 + 1 + 1 ≠ w.heap.size + 1 by omega) (.int .i64 4)).far (p := ⟨w.heap.size + 1, 1, none⟩) (show w.heap.size + 1 + 1 + 1 ≠ w.heap.size + 1 by omega) (.slice (some ⟨w.heap.size + 1 + 1 + 1 + 1 + 1 + 1, 0, none⟩) 2 2))
  have L4 := Lib.hid ((K4.out.far (p := ⟨w.heap.size + 1, 0, none⟩) (show w.heap.size + 1 + 1 + 1 + 1 ≠ w.heap.size + 1 by omega) (.int .i64 4)).far (p := ⟨w.heap.size + 1, 1, none⟩) (show w.heap.size + 1 + 1 + 1 + 1 ≠ w.heap.size + 1 by omega) (.slice (some ⟨w.heap.size + 1 + 1 + 1 + 1 + 1 + 1, 0, none⟩) 2 2))
  have L5 := Lib.hid ((K5.out.far (p := ⟨w.heap.size + 1, 0, none⟩) (show w.heap.size + 1 + 1 + 1 + 1 + 1 ≠ w.heap.size + 1 by omega) (.int .i64 4)).far (p := ⟨w.heap.size + 1, 1, none⟩) (show w.heap.size + 1 + 1 + 1 + 1 + 1 ≠ w.heap.size + 1 by omega) (.slice (some ⟨w.heap.size + 1 + 1 + 1 + 1 + 1 + 1, 0, none⟩) 2 2))
  have L6 := Lib.hid ((K6.out.far (p := ⟨w.heap.size + 1, 0, none⟩) (show w.heap.size + 1 + 1 + 1 + 1 + 1 + 1 ≠ w.heap.size + 1 by omega) (.int .i64 4)).far (p := ⟨w.heap.size + 1, 1, none⟩) (show w.heap.size + 1 + 1 + 1 + 1 + 1 + 1 ≠ w.heap.size + 1 by omega) (.slice (some ⟨w.heap.size + 1 + 1 + 1 + 1 + 1 + 1, 0, none⟩) 2 2))
  have L7 := Lib.hid ((K7.out.far (p := ⟨w.heap.size + 1, 0, none⟩) (show w.heap.size + 1 + 1 + 1 + 1 + 1 + 1 + 1 ≠ w.heap.size + 1 by omega) (.int .i64 4)).far (p := ⟨w.heap.size + 1, 1, none⟩) (show w.heap.size + 1 + 1 + 1 + 1 + 1 + 1 + 1 ≠ w.heap.size + 1 by omega) (.slice (some ⟨w.heap.size + 1 + 1 + 1 + 1 + 1 + 1, 0, none⟩) 2 2))
  have HB4 := Lib.hid ((HB3.out.setCell (p := ⟨w.heap.size + 1, 0, none⟩) (Nat.le_succ _) (.int .i64 4)).setCell (p := ⟨w.heap.size + 1, 1, none⟩) (Nat.le_succ _) (.slice (some ⟨w.heap.size + 1 + 1 + 1 + 1 + 1 + 1, 0, none⟩) 2 2))
  have LSZ : Hid (((v2.setCell ⟨w.heap.size + 1, 0, none⟩ (.int .i64 4)).setCell ⟨w.heap.size + 1, 1, none⟩ (.slice (some ⟨w.heap.size + 1 + 1 + 1 + 1 + 1 + 1, 0, none⟩) 2 2)).heap.size = w.heap.size + 1 + 1 + 1 + 1 + 1 + 1 + 1 + 1) := Lib.hid (by simp; exact KSZ.out)
  obtain ⟨v3, hv3⟩ : ∃ v3 : World, (v2.setCell ⟨w.heap.size + 1, 0, none⟩ (.int .i64 4)).setCell ⟨w.heap.size + 1, 1, none⟩ (.slice (some ⟨w.heap.size + 1 + 1 + 1 + 1 + 1 + 1, 0, none⟩) 2 2) = v3 := ⟨_, rfl⟩
  rw [hv3] at L0 L1 L2 L3 L4 L5 L6 L7 HB4 LSZ
  rw [hv3]
  clear hv3 K0 K1 K2 K3 K4 K5 K6 K7 KSZ HB3 hHeld hHeld2
  have m0 := L0.out.cell 0; have m1 := L0.out.cell 1; have n0 := L1.out.cell 0; have n1 := L1.out.cell 1
  simp at m0 m1 n0 n1
  go_wp2
  refine bodyPost_ret (v := .tuple #[.agg #[.int .i64 4, .slice (some ⟨w.heap.size + 1 + 1 + 1, 0, none⟩) 2 2], .agg #[.int .i64 4, .slice (some ⟨w.heap.size + 1 + 1 + 1 + 1 + 1 + 1, 0, none⟩) 2 2]]) (by simp [results, Try.results46, go_sem, m0, m1, n0, n1]) rfl ⟨_, _, rfl, HB4.out, ?_, ?_⟩
  · exact mK_row 2 L2.out L3.out ⟨by omega, by rw [LSZ.out]; omega⟩ ⟨by omega, by rw [LSZ.out]; omega⟩
  · exact mK_row 3 L5.out L6.out ⟨by omega, by rw [LSZ.out]; omega⟩ ⟨by omega, by rw [LSZ.out]; omega⟩
end Go.Proofs.Ytpjkifbicfcajaa
