/- back, and on again -/
import Derived.Test.YtpjkifbicfcajaaTwo
import Derived.Test.YtpjkifbicfcajaaPastK
set_option linter.unusedSimpArgs false
set_option linter.unusedVariables false
namespace Go.Proofs.Ytpjkifbicfcajaa
open Go Go.RowKit

def m00 : AModel := ⟨0, []⟩
theorem m00_all : ModAll m00 := ⟨fun y hy => (by cases hy), ⟨by show (-9223372036854775808 : Int) ≤ 0; omega, by show (0 : Int) ≤ _; omega⟩, Nat.zero_le _⟩
theorem m00_no : checkI m00 = 29 := m0_no
theorem all2 : ∀ m ∈ [mK 2, mK 3], ModAll m := fun m hm => by
  rcases List.mem_cons.1 hm with rfl | hm
  · exact mK_all (by omega) (by omega)
  · rcases List.mem_cons.1 hm with rfl | hm
    · exact mK_all (by omega) (by omega)
    · cases hm
set_option maxRecDepth 100000 in
set_option maxHeartbeats 8000000 in
theorem awake_any (w : World) : Calls Try.prog 29 #[] w fun e w' => e = .returned (.bool true) ∧ Below w.heap.size w w' := by
  go_enter Try.func29, Try.ntmps29
  go_wp2_with fail
  refine (two_any w).mono ?_
  rintro _ w2 ⟨Aa, Ab, rfl, hb2, ra, rb⟩
  have HBW := Lib.hid hb2
  have HRA : Hid (∀ V, Below w2.heap.size w2 V → RowOf 7 ENode V (fun b => b < w2.heap.size) Aa (mK 2).nodes) := Lib.hid (fun V hb => ra.keep ENode.stays (Keep.below hb (fun b h => h.2)) (fun b h => h.2))
  have HRB : Hid (∀ V, Below w2.heap.size w2 V → RowOf 7 ENode V (fun b => b < w2.heap.size) Ab (mK 3).nodes) := Lib.hid (fun V hb => rb.keep ENode.stays (Keep.below hb (fun b h => h.2)) (fun b h => h.2))
  clear ra rb hb2
  obtain ⟨pa, hpa⟩ : ∃ x, w2.heap.size = x := ⟨_, rfl⟩
  have HWE : Hid (∃ z, (w2.alloc (.cells #[.int .i64 4, .slice Aa 2 2] 27)).alloc (.cells #[.int .i64 4, .slice Ab 2 2] 27) = z) := Lib.hid ⟨_, rfl⟩
  go_upto_region 2 with fail
  obtain ⟨w3, hw3⟩ := HWE.out
  have HX3 : Hid (Blk w3 pa 27 #[.int .i64 4, .slice Aa 2 2]) := Lib.hid (by rw [← hw3, ← hpa]; exact (Blk.new _ _ _).alloc _)
  have HY3 : Hid (Blk w3 (pa + 1) 27 #[.int .i64 4, .slice Ab 2 2]) := Lib.hid (by rw [← hw3, ← hpa]; exact Blk.new' (by simp))
  have HC3 : Hid (Below w2.heap.size w2 w3) := Lib.hid (by rw [← hw3]; exact ((Below.refl _ _).alloc (Nat.le_refl _) _).alloc (by simp) _)
  have HPA : Hid (w2.heap.size = pa) := Lib.hid hpa
  (try rw [hpa])
  (try rw [hw3])
  clear HWE hw3 hpa
  have x0 := HX3.out.cell 0; have x1 := HX3.out.cell 1
  have hxlt := HX3.out.lt
  simp at x0 x1
  go_wp2_with fail
  clear x0 x1 hxlt
  refine (new_fp (m := mK 2) 2 (F := fun b => b < w2.heap.size) (fun b h => Nat.lt_of_lt_of_le h HC3.out.size) (HRA.out _ HC3.out) (mK_all (k := 2) (by omega) (by omega))).mono ?_
  rintro _ w4 ⟨pv, rfl, hb4, hno, hyes⟩
  obtain ⟨p, rfl, hpl, hP⟩ := hyes (mK_yes (k := 2) (by omega) (by omega))
  clear hno hyes
  rw [(mK_yes (k := 2) (by omega) (by omega))]
  have HC4 := Lib.hid (HC3.out.trans (hb4.mono HC3.out.size))
  have HX4 := Lib.hid (HX3.out.below hb4 HX3.out.lt); have HY4 := Lib.hid (HY3.out.below hb4 HY3.out.lt)
  have HP4 := Lib.hid hP
  have HPL : Hid (w2.heap.size ≤ p ∧ pa ≠ p ∧ pa + 1 ≠ p) := Lib.hid (by have := HX3.out.lt; have := HY3.out.lt; have := HC3.out.size; omega)
  clear hP hpl hb4 HC3 HX3 HY3
  have y0 := HY4.out.cell 0; have y1 := HY4.out.cell 1
  have hylt := HY4.out.lt
  simp at y0 y1
  go_wp2_with fail
  clear y0 y1 hylt
  have hpu := push_fp (m := mK 3) (P := ⟨[], mK 2, []⟩) (F2 := fun b => b < w2.heap.size) 2 HP4.out (by unfold APast.Fits APast.list; simp) (fun b h => Nat.lt_of_lt_of_le h HC4.out.size) (HRB.out _ HC4.out) (mK_all (k := 3) (by omega) (by omega))
  rw [pushK1] at hpu
  refine hpu.mono ?_
  rintro _ w5 ⟨rfl, hk, hp⟩
  clear hpu
  have HP5 := Lib.hid hp
  have HC5 := Lib.hid (HC4.out.trans (hk.toBelow HC4.out.size (fun b e => by subst e; exact HPL.out.1)))
  have HX5 := Lib.hid (hk.blk HX4.out (by have := HPL.out; omega))
  have HY5 := Lib.hid (hk.blk HY4.out (by have := HPL.out; omega))
  clear hk hp HP4
  clear HC4 HX4 HY4
  have y0 := HY5.out.cell 0; have y1 := HY5.out.cell 1
  have hylt := HY5.out.lt
  simp at y0 y1
  go_wp2_with fail
  clear y0 y1 hylt
  have hpu := push_fp (m := mK 3) (P := ⟨[mK 2], mK 3, []⟩) (F2 := fun b => b < w2.heap.size) 2 HP5.out (by unfold APast.Fits APast.list; simp) (fun b h => Nat.lt_of_lt_of_le h HC5.out.size) (HRB.out _ HC5.out) (mK_all (k := 3) (by omega) (by omega))
  rw [pushK2] at hpu
  refine hpu.mono ?_
  rintro _ w6 ⟨rfl, hk, hp⟩
  clear hpu
  have HP6 := Lib.hid hp
  have HC6 := Lib.hid (HC5.out.trans (hk.toBelow HC5.out.size (fun b e => by subst e; exact HPL.out.1)))
  have HX6 := Lib.hid (hk.blk HX5.out (by have := HPL.out; omega))
  have HY6 := Lib.hid (hk.blk HY5.out (by have := HPL.out; omega))
  clear hk hp HP5
  clear HC5 HX5 HY5
  go_wp2_with fail
  have hun := undo_ok (P := ⟨[mK 2], mK 3, []⟩) (m := mK 2) HP6.out (by unfold APast.Fits APast.list; simp) all2 rfl
  refine hun.mono ?_
  rintro _ w7 ⟨Am, cm, rfl, hk, hp, hm⟩
  have Hm7 := Lib.hid hm
  clear hun
  have HP7 : Hid (Pst w7 p ⟨[], mK 2, [mK 3]⟩) := Lib.hid hp
  have HC7 := Lib.hid (HC6.out.trans (hk.toBelow HC6.out.size (fun b e => by subst e; exact HPL.out.1)))
  have HX7 := Lib.hid (hk.blk HX6.out (by have := HPL.out; omega))
  have HY7 := Lib.hid (hk.blk HY6.out (by have := HPL.out; omega))
  clear hk hp hm HP6
  clear HC6 HX6 HY6
  obtain ⟨pM, hpM⟩ : ∃ x, w7.heap.size = x := ⟨_, rfl⟩
  have HWE : Hid (∃ z, w7.alloc (.cells #[.int .i64 (mK 2).next, .slice Am (mK 2).nodes.length cm] 27) = z) := Lib.hid ⟨_, rfl⟩
  go_upto_region 8 with fail
  obtain ⟨w8, hw8⟩ := HWE.out
  have HM8 : Hid (Blk w8 pM 27 #[.int .i64 (mK 2).next, .slice Am (mK 2).nodes.length cm]) := Lib.hid (by rw [← hw8]; exact Blk.new' hpM.symm)
  have hb : Below w7.heap.size w7 w8 := by rw [← hw8]; exact (Below.refl _ _).alloc (Nat.le_refl _) _
  have HNM : Hid (pM ≠ p) := Lib.hid (by have := HP7.out.lt; omega)
  (try rw [hpM])
  (try rw [hw8])
  clear HWE hw8 hpM
  have hk : KeepO (· = p) w7 w8 := keepO_below hb
  have HP8 := Lib.hid (HP7.out.up hb)
  have HC8 := Lib.hid (HC7.out.trans (hk.toBelow HC7.out.size (fun b e => by subst e; exact HPL.out.1)))
  have HX8 := Lib.hid (hk.blk HX7.out (by have := HPL.out; omega))
  have HY8 := Lib.hid (hk.blk HY7.out (by have := HPL.out; omega))
  have Hm8 := Lib.hid (Hm7.out.step hk)
  clear hk hb HP7
  clear HC7 HX7 HY7 Hm7
  go_wp2_with fail
  have hun := undo_no (P := ⟨[], mK 2, [mK 3]⟩) HP8.out (by unfold APast.Fits APast.list; simp) all2 rfl
  refine hun.mono ?_
  rintro _ w9 ⟨rfl, hk, hp⟩
  clear hun
  have HP9 : Hid (Pst w9 p ⟨[], mK 2, [mK 3]⟩) := Lib.hid hp
  have HC9 := Lib.hid (HC8.out.trans (hk.toBelow HC8.out.size (fun b e => by subst e; exact HPL.out.1)))
  have HX9 := Lib.hid (hk.blk HX8.out (by have := HPL.out; omega))
  have HY9 := Lib.hid (hk.blk HY8.out (by have := HPL.out; omega))
  have HM9 := Lib.hid (hk.blk HM8.out (by have := HPL.out; have := HNM.out; omega))
  have Hm9 := Lib.hid (Hm8.out.step hk)
  clear hk hp  HP8
  clear HC8 HX8 HY8 HM8 Hm8
  obtain ⟨pZ, hpZ⟩ : ∃ x, w9.heap.size = x := ⟨_, rfl⟩
  have HWE : Hid (∃ z, w9.alloc (.cells #[.int .i64 0, .slice none 0 0] 27) = z) := Lib.hid ⟨_, rfl⟩
  go_upto_region 9 with fail
  obtain ⟨w10, hw10⟩ := HWE.out
  have HZ10 : Hid (Blk w10 pZ 27 #[.int .i64 0, .slice none 0 0]) := Lib.hid (by rw [← hw10]; exact Blk.new' hpZ.symm)
  have hb : Below w9.heap.size w9 w10 := by rw [← hw10]; exact (Below.refl _ _).alloc (Nat.le_refl _) _
  have HNZ : Hid (pZ ≠ p) := Lib.hid (by have := HP9.out.lt; omega)
  (try rw [hpZ])
  (try rw [hw10])
  clear HWE hw10 hpZ
  have hk : KeepO (· = p) w9 w10 := keepO_below hb
  have HP10 := Lib.hid (HP9.out.up hb)
  have HC10 := Lib.hid (HC9.out.trans (hk.toBelow HC9.out.size (fun b e => by subst e; exact HPL.out.1)))
  have HX10 := Lib.hid (hk.blk HX9.out (by have := HPL.out; omega))
  have HY10 := Lib.hid (hk.blk HY9.out (by have := HPL.out; omega))
  have HM10 := Lib.hid (hk.blk HM9.out (by have := HPL.out; have := HNM.out; omega))
  have Hm10 := Lib.hid (Hm9.out.step hk)
  clear hk hb HP9
  clear HC9 HX9 HY9 HM9 Hm9
  go_wp2_with fail
  have hun := redo_ok (P := ⟨[], mK 2, [mK 3]⟩) (m := mK 3) HP10.out (by unfold APast.Fits APast.list; simp) all2 rfl
  refine hun.mono ?_
  rintro _ w11 ⟨An, cn, rfl, hk, hp, hm⟩
  have Hn11 := Lib.hid hm
  clear hun
  have HP11 : Hid (Pst w11 p ⟨[mK 2], mK 3, []⟩) := Lib.hid hp
  have HC11 := Lib.hid (HC10.out.trans (hk.toBelow HC10.out.size (fun b e => by subst e; exact HPL.out.1)))
  have HX11 := Lib.hid (hk.blk HX10.out (by have := HPL.out; omega))
  have HY11 := Lib.hid (hk.blk HY10.out (by have := HPL.out; omega))
  have HM11 := Lib.hid (hk.blk HM10.out (by have := HPL.out; have := HNM.out; omega))
  have HZ11 := Lib.hid (hk.blk HZ10.out (by have := HPL.out; have := HNZ.out; omega))
  have Hm11 := Lib.hid (Hm10.out.step hk)
  clear hk hp hm HP10
  clear HC10 HX10 HY10 HM10 HZ10 Hm10
  obtain ⟨pW, hpW⟩ : ∃ x, w11.heap.size = x := ⟨_, rfl⟩
  have HWE : Hid (∃ z, w11.alloc (.cells #[.int .i64 (mK 3).next, .slice An (mK 3).nodes.length cn] 27) = z) := Lib.hid ⟨_, rfl⟩
  go_upto_region 10 with fail
  obtain ⟨w12, hw12⟩ := HWE.out
  have HW12 : Hid (Blk w12 pW 27 #[.int .i64 (mK 3).next, .slice An (mK 3).nodes.length cn]) := Lib.hid (by rw [← hw12]; exact Blk.new' hpW.symm)
  have hb : Below w11.heap.size w11 w12 := by rw [← hw12]; exact (Below.refl _ _).alloc (Nat.le_refl _) _
  have HNW : Hid (pW ≠ p) := Lib.hid (by have := HP11.out.lt; omega)
  (try rw [hpW])
  (try rw [hw12])
  clear HWE hw12 hpW
  have hk : KeepO (· = p) w11 w12 := keepO_below hb
  have HP12 := Lib.hid (HP11.out.up hb)
  have HC12 := Lib.hid (HC11.out.trans (hk.toBelow HC11.out.size (fun b e => by subst e; exact HPL.out.1)))
  have HX12 := Lib.hid (hk.blk HX11.out (by have := HPL.out; omega))
  have HY12 := Lib.hid (hk.blk HY11.out (by have := HPL.out; omega))
  have HM12 := Lib.hid (hk.blk HM11.out (by have := HPL.out; have := HNM.out; omega))
  have HZ12 := Lib.hid (hk.blk HZ11.out (by have := HPL.out; have := HNZ.out; omega))
  have Hm12 := Lib.hid (Hm11.out.step hk)
  have Hn12 := Lib.hid (Hn11.out.step hk)
  clear hk hb HP11
  clear HC11 HX11 HY11 HM11 HZ11 Hm11 Hn11
  go_wp2_with fail
  refine (depth_fp (P := ⟨[mK 2], mK 3, []⟩) HP12.out (by unfold APast.Fits APast.list; simp)).mono ?_
  rintro _ w13 ⟨rfl, hb⟩
  have hk : KeepO (· = p) w12 w13 := keepO_below hb
  have HP13 := Lib.hid (HP12.out.up hb)
  have HC13 := Lib.hid (HC12.out.trans (hk.toBelow HC12.out.size (fun b e => by subst e; exact HPL.out.1)))
  have HX13 := Lib.hid (hk.blk HX12.out (by have := HPL.out; omega))
  have HY13 := Lib.hid (hk.blk HY12.out (by have := HPL.out; omega))
  have HM13 := Lib.hid (hk.blk HM12.out (by have := HPL.out; have := HNM.out; omega))
  have HZ13 := Lib.hid (hk.blk HZ12.out (by have := HPL.out; have := HNZ.out; omega))
  have HW13 := Lib.hid (hk.blk HW12.out (by have := HPL.out; have := HNW.out; omega))
  have Hm13 := Lib.hid (Hm12.out.step hk)
  have Hn13 := Lib.hid (Hn12.out.step hk)
  clear hk hb HP12
  clear HC12 HX12 HY12 HM12 HZ12 HW12 Hm12 Hn12
  have x0 := HX13.out.cell 0; have x1 := HX13.out.cell 1
  have hxlt := HX13.out.lt
  simp at x0 x1
  have y0 := HY13.out.cell 0; have y1 := HY13.out.cell 1
  have hylt := HY13.out.lt
  simp at y0 y1
  go_wp2_with fail
  clear x0 x1 hxlt y0 y1 hylt
  have htu := htouched_any Aa Ab 2 2 (mK 2) (mK 3) w13 (fun b => b < w2.heap.size) (fun b h => Nat.lt_of_lt_of_le h HC13.out.size) (HRA.out _ HC13.out) (HRB.out _ HC13.out) (mK_all (k := 2) (by omega) (by omega)) (mK_all (k := 3) (by omega) (by omega))
  refine htu.mono ?_
  rintro _ w14 ⟨v14, rfl, ho, hb⟩
  clear htu
  rw [mK_touchL] at ho
  rw [mK_touchE]
  obtain ⟨Al, cl, rfl⟩ := ho.shape
  have HL14 := Lib.hid ho
  clear ho
  have hk : KeepO (· = p) w13 w14 := keepO_below hb
  have HP14 := Lib.hid (HP13.out.up hb)
  have HC14 := Lib.hid (HC13.out.trans (hk.toBelow HC13.out.size (fun b e => by subst e; exact HPL.out.1)))
  have HX14 := Lib.hid (hk.blk HX13.out (by have := HPL.out; omega))
  have HY14 := Lib.hid (hk.blk HY13.out (by have := HPL.out; omega))
  have HM14 := Lib.hid (hk.blk HM13.out (by have := HPL.out; have := HNM.out; omega))
  have HZ14 := Lib.hid (hk.blk HZ13.out (by have := HPL.out; have := HNZ.out; omega))
  have HW14 := Lib.hid (hk.blk HW13.out (by have := HPL.out; have := HNW.out; omega))
  have Hm14 := Lib.hid (Hm13.out.step hk)
  have Hn14 := Lib.hid (Hn13.out.step hk)
  clear hk hb HP13
  clear HC13 HX13 HY13 HM13 HZ13 HW13 Hm13 Hn13
  go_wp2_with fail
  refine (new_fp (m := m00) (A := none) 0 (F := fun b => b < w2.heap.size) (fun b h => Nat.lt_of_lt_of_le h HC14.out.size) (RowOf.nil _) m00_all).mono ?_
  rintro _ w15 ⟨pv, rfl, hb, hno, hyes⟩
  obtain rfl := hno (by rw [m00_no]; decide)
  rw [m00_no]
  clear hno hyes
  have HL15 := Lib.hid (HL14.out.below hb)
  clear HL14
  have hk : KeepO (· = p) w14 w15 := keepO_below hb
  have HP15 := Lib.hid (HP14.out.up hb)
  have HC15 := Lib.hid (HC14.out.trans (hk.toBelow HC14.out.size (fun b e => by subst e; exact HPL.out.1)))
  have HX15 := Lib.hid (hk.blk HX14.out (by have := HPL.out; omega))
  have HY15 := Lib.hid (hk.blk HY14.out (by have := HPL.out; omega))
  have HM15 := Lib.hid (hk.blk HM14.out (by have := HPL.out; have := HNM.out; omega))
  have HZ15 := Lib.hid (hk.blk HZ14.out (by have := HPL.out; have := HNZ.out; omega))
  have HW15 := Lib.hid (hk.blk HW14.out (by have := HPL.out; have := HNW.out; omega))
  have Hm15 := Lib.hid (Hm14.out.step hk)
  have Hn15 := Lib.hid (Hn14.out.step hk)
  clear hk hb HP14
  clear HC14 HX14 HY14 HM14 HZ14 HW14 Hm14 Hn14
  have m0 := HM15.out.cell 0; have m1 := HM15.out.cell 1
  have hmlt := HM15.out.lt
  simp at m0 m1
  have x0 := HX15.out.cell 0; have x1 := HX15.out.cell 1
  have hxlt := HX15.out.lt
  simp at x0 x1
  go_wp2_with fail
  clear m0 m1 hmlt
  clear x0 x1 hxlt
  refine (res_is (eqB_yes rfl) (same_fp (m := mK 2) (m' := mK 2) (p := p) (F2 := fun b => b < w2.heap.size) cm 2 Hm15.out (fun b h => Nat.lt_of_lt_of_le h HC15.out.size) (HRA.out _ HC15.out) (by show 2 ≤ _; omega))).mono ?_
  rintro _ w16 ⟨rfl, hb⟩
  have HL16 := Lib.hid (HL15.out.below hb)
  clear HL15
  have hk : KeepO (· = p) w15 w16 := keepO_below hb
  have HP16 := Lib.hid (HP15.out.up hb)
  have HC16 := Lib.hid (HC15.out.trans (hk.toBelow HC15.out.size (fun b e => by subst e; exact HPL.out.1)))
  have HX16 := Lib.hid (hk.blk HX15.out (by have := HPL.out; omega))
  have HY16 := Lib.hid (hk.blk HY15.out (by have := HPL.out; omega))
  have HM16 := Lib.hid (hk.blk HM15.out (by have := HPL.out; have := HNM.out; omega))
  have HZ16 := Lib.hid (hk.blk HZ15.out (by have := HPL.out; have := HNZ.out; omega))
  have HW16 := Lib.hid (hk.blk HW15.out (by have := HPL.out; have := HNW.out; omega))
  have Hm16 := Lib.hid (Hm15.out.step hk)
  have Hn16 := Lib.hid (Hn15.out.step hk)
  clear hk hb HP15
  clear HC15 HX15 HY15 HM15 HZ15 HW15 Hm15 Hn15
  have m0 := HW16.out.cell 0; have m1 := HW16.out.cell 1
  have hmlt := HW16.out.lt
  simp at m0 m1
  have y0 := HY16.out.cell 0; have y1 := HY16.out.cell 1
  have hylt := HY16.out.lt
  simp at y0 y1
  go_wp2_with fail
  clear m0 m1 hmlt
  clear y0 y1 hylt
  refine (res_is (eqB_yes rfl) (same_fp (m := mK 3) (m' := mK 3) (p := p) (F2 := fun b => b < w2.heap.size) cn 2 Hn16.out (fun b h => Nat.lt_of_lt_of_le h HC16.out.size) (HRB.out _ HC16.out) (by show 2 ≤ _; omega))).mono ?_
  rintro _ w17 ⟨rfl, hb⟩
  have HL17 := Lib.hid (HL16.out.below hb)
  clear HL16
  have hk : KeepO (· = p) w16 w17 := keepO_below hb
  have HP17 := Lib.hid (HP16.out.up hb)
  have HC17 := Lib.hid (HC16.out.trans (hk.toBelow HC16.out.size (fun b e => by subst e; exact HPL.out.1)))
  have HX17 := Lib.hid (hk.blk HX16.out (by have := HPL.out; omega))
  have HY17 := Lib.hid (hk.blk HY16.out (by have := HPL.out; omega))
  have HM17 := Lib.hid (hk.blk HM16.out (by have := HPL.out; have := HNM.out; omega))
  have HZ17 := Lib.hid (hk.blk HZ16.out (by have := HPL.out; have := HNZ.out; omega))
  have HW17 := Lib.hid (hk.blk HW16.out (by have := HPL.out; have := HNW.out; omega))
  have Hm17 := Lib.hid (Hm16.out.step hk)
  have Hn17 := Lib.hid (Hn16.out.step hk)
  clear hk hb HP16
  clear HC16 HX16 HY16 HM16 HZ16 HW16 Hm16 Hn16
  have hr := HL17.out.isRow (F := fun b => b < w17.heap.size) (fun b _ h => h)
  obtain ⟨A', c', e', hc1, hc2, hr⟩ := hr
  injection e' with e1 e2 e3
  subst e1 e3
  obtain ⟨bl, offl, rfl, _, l0⟩ := int_at hr (i := 0) (by simp)
  obtain ⟨bl2, offl2, e4, _, l2⟩ := int_at hr (i := 2) (by simp)
  injection e4 with e4
  injection e4 with e5 e6
  subst e5 e6
  simp at l0 l2
  have HBE := Lib.hid (HBW.out.trans (HC17.out.mono HBW.out.size))
  clear hr hc1 hc2 HC17 HX17 HY17 HM17 HZ17 HW17 Hm17 Hn17 HP17 HL17 HRA HRB HPL HPA HNM HNZ HNW
  go_wp2
  go_ret
  exact ⟨by simp, HBE.out⟩
end Go.Proofs.Ytpjkifbicfcajaa
