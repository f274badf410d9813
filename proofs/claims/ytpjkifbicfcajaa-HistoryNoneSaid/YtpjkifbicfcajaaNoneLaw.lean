/- the law of no past -/
import Derived.Test.YtpjkifbicfcajaaNoPast
import Derived.Test.YtpjkifbicfcajaaAwake
set_option linter.unusedSimpArgs false
set_option linter.unusedVariables false
namespace Go.Proofs.Ytpjkifbicfcajaa
open Go Go.RowKit

set_option maxRecDepth 100000 in
set_option maxHeartbeats 8000000 in
theorem nonelaw_any (va : Value) (m : AModel) (w : World) (h : IsModel w (fun b => b < w.heap.size) va m) :
    Calls Try.prog 8 #[va] w fun e w' => e = .returned (.bool true) ∧ Below w.heap.size w w' := by
  obtain ⟨_, rfl, A, c, rfl, _, _, _⟩ := h
  obtain ⟨v, hv⟩ : ∃ v : World, w.alloc (.cells #[.int .i64 m.next, .slice A m.nodes.length c] 27) = v := ⟨_, rfl⟩
  have HB1 : Hid (Below w.heap.size w v) := Lib.hid (by rw [← hv]; exact (Below.refl w.heap.size w).alloc (Nat.le_refl _) _)
  have HX1 : Hid (Blk v w.heap.size 27 #[.int .i64 m.next, .slice A m.nodes.length c]) := Lib.hid (by rw [← hv]; exact Blk.new _ _ _)
  go_enter Try.func8, Try.ntmps8
  go_upto_region 1 with fail
  (try rw [hv])
  clear hv
  go_wp2_with fail
  refine (awake_any v).mono ?_
  rintro _ w2 ⟨rfl, hb⟩
  have HB2 := Lib.hid (HB1.out.trans (hb.mono HB1.out.size))
  have HX2 := Lib.hid (HX1.out.below hb HX1.out.lt)
  clear hb HB1 HX1
  obtain ⟨s, hs⟩ : ∃ x, w2.heap.size = x := ⟨_, rfl⟩
  have HWE : Hid (∃ z, (w2.alloc (.cells #[.slice none 0 0, .int .i64 0] 69)).alloc (.cells #[.pointer none, .pointer (some ⟨w2.heap.size, 0, none⟩)] 29) = z) := Lib.hid ⟨_, rfl⟩
  go_upto_region 4 with fail
  obtain ⟨w3, hw3⟩ := HWE.out
  have HS3 : Hid (Blk w3 s 69 #[.slice none 0 0, .int .i64 0]) := Lib.hid (by rw [← hw3, ← hs]; exact (Blk.new _ _ _).alloc _)
  have HL3 : Hid (Blk w3 (s + 1) 29 #[.pointer none, .pointer (some ⟨s, 0, none⟩)]) := Lib.hid (by rw [← hw3, ← hs]; exact Blk.new' (by simp))
  have hb : Below w2.heap.size w2 w3 := by rw [← hw3]; exact ((Below.refl _ _).alloc (Nat.le_refl _) _).alloc (by simp) _
  (try rw [hs])
  rw [hs] at hw3
  (try rw [hw3])
  clear HWE hw3 hs
  have HB3 := Lib.hid (HB2.out.trans (hb.mono HB2.out.size))
  have HX3 := Lib.hid (HX2.out.below hb HX2.out.lt)
  clear hb HB2 HX2
  go_loopg [4, 19] 2 (fun g s4 s19 wx => ∃ i : Nat, s19 = .int .i64 i ∧ g = 2 - i ∧ i ≤ 2 ∧ Below w.heap.size w wx ∧ Blk wx w.heap.size 27 #[.int .i64 m.next, .slice A m.nodes.length c] ∧ Blk wx s 69 #[.slice none 0 0, .int .i64 0] ∧ Blk wx (s + 1) 29 #[.pointer none, .pointer (some ⟨s, 0, none⟩)])
  case atStart => exact ⟨0, rfl, rfl, by omega, HB3.out, HX3.out, HS3.out, HL3.out⟩
  case round =>
    clear HB3 HX3 HS3 HL3
    obtain ⟨i, rfl, rfl, hi2, hb, hx, hs, hl⟩ := hrel
    have HB := Lib.hid hb; have HX := Lib.hid hx; have HS := Lib.hid hs; have HL := Lib.hid hl
    clear hb hx hs hl
    by_cases hi : i = 0
    · subst hi
      have l0 : wr.cell? ⟨s + 1, 0, none⟩ = some (.pointer none) := HL.out.cell 0
      have l1 : wr.cell? ⟨s + 1, 1, none⟩ = some (.pointer (some ⟨s, 0, none⟩)) := HL.out.cell 1
      have hllt := HL.out.lt
      go_wp2_with fail
      clear l0 l1 hllt
      refine (now0_any _ wr (.inl rfl)).mono ?_
      rintro _ w4 ⟨rfl, hb⟩
      have HB4 := Lib.hid (HB.out.trans (hb.mono HB.out.size))
      have HX4 := Lib.hid (HX.out.below hb HX.out.lt)
      have HS4 := Lib.hid (HS.out.below hb HS.out.lt)
      have HL4 := Lib.hid (HL.out.below hb HL.out.lt)
      clear hb HB HX HS HL
      obtain ⟨pN, hpN⟩ : ∃ x, w4.heap.size = x := ⟨_, rfl⟩
      have HWE : Hid (∃ z, w4.alloc (.cells #[.int .i64 0, .slice none 0 0] 27) = z) := Lib.hid ⟨_, rfl⟩
      go_upto_region 7 with fail
      obtain ⟨w5, hw5⟩ := HWE.out
      have hnew : Blk w5 pN 27 #[.int .i64 0, .slice none 0 0] := by rw [← hw5]; exact Blk.new' hpN.symm
      have hb : Below w4.heap.size w4 w5 := by rw [← hw5]; exact (Below.refl _ _).alloc (Nat.le_refl _) _
      (try rw [hpN])
      (try rw [hw5])
      clear HWE hw5 hpN
      have HB5 := Lib.hid (HB4.out.trans (hb.mono HB4.out.size))
      have HX5 := Lib.hid (HX4.out.below hb HX4.out.lt)
      have HS5 := Lib.hid (HS4.out.below hb HS4.out.lt)
      have HL5 := Lib.hid (HL4.out.below hb HL4.out.lt)
      clear hb HB4 HX4 HS4 HL4
      have HN5 := Lib.hid hnew
      clear hnew
      go_wp2_with fail
      refine (depth0_any _ w5 (.inl rfl)).mono ?_
      rintro _ w6 ⟨rfl, hb⟩
      have HB6 := Lib.hid (HB5.out.trans (hb.mono HB5.out.size))
      have HX6 := Lib.hid (HX5.out.below hb HX5.out.lt)
      have HS6 := Lib.hid (HS5.out.below hb HS5.out.lt)
      have HL6 := Lib.hid (HL5.out.below hb HL5.out.lt)
      have HN6 := Lib.hid (HN5.out.below hb HN5.out.lt)
      clear hb HB5 HX5 HS5 HL5 HN5
      have x0 := HX6.out.cell 0; have x1 := HX6.out.cell 1
      have hxlt := HX6.out.lt
      simp at x0 x1
      go_wp2_with fail
      clear x0 x1 hxlt
      refine (push0_any _ _ _ _ _ w6 (.inl rfl)).mono ?_
      rintro _ w7 ⟨rfl, hb⟩
      have HB7 := Lib.hid (HB6.out.trans (hb.mono HB6.out.size))
      have HX7 := Lib.hid (HX6.out.below hb HX6.out.lt)
      have HS7 := Lib.hid (HS6.out.below hb HS6.out.lt)
      have HL7 := Lib.hid (HL6.out.below hb HL6.out.lt)
      have HN7 := Lib.hid (HN6.out.below hb HN6.out.lt)
      clear hb HB6 HX6 HS6 HL6 HN6
      go_wp2_with fail
      refine (undo0_any _ w7 (.inl rfl)).mono ?_
      rintro _ w8 ⟨rfl, hb⟩
      have HB8 := Lib.hid (HB7.out.trans (hb.mono HB7.out.size))
      have HX8 := Lib.hid (HX7.out.below hb HX7.out.lt)
      have HS8 := Lib.hid (HS7.out.below hb HS7.out.lt)
      have HL8 := Lib.hid (HL7.out.below hb HL7.out.lt)
      have HN8 := Lib.hid (HN7.out.below hb HN7.out.lt)
      clear hb HB7 HX7 HS7 HL7 HN7
      obtain ⟨pU, hpU⟩ : ∃ x, w8.heap.size = x := ⟨_, rfl⟩
      have HWE : Hid (∃ z, w8.alloc (.cells #[.int .i64 0, .slice none 0 0] 27) = z) := Lib.hid ⟨_, rfl⟩
      go_upto_region 10 with fail
      obtain ⟨w9, hw9⟩ := HWE.out
      have hnew : Blk w9 pU 27 #[.int .i64 0, .slice none 0 0] := by rw [← hw9]; exact Blk.new' hpU.symm
      have hb : Below w8.heap.size w8 w9 := by rw [← hw9]; exact (Below.refl _ _).alloc (Nat.le_refl _) _
      (try rw [hpU])
      (try rw [hw9])
      clear HWE hw9 hpU
      have HB9 := Lib.hid (HB8.out.trans (hb.mono HB8.out.size))
      have HX9 := Lib.hid (HX8.out.below hb HX8.out.lt)
      have HS9 := Lib.hid (HS8.out.below hb HS8.out.lt)
      have HL9 := Lib.hid (HL8.out.below hb HL8.out.lt)
      have HN9 := Lib.hid (HN8.out.below hb HN8.out.lt)
      clear hb HB8 HX8 HS8 HL8 HN8
      have HU9 := Lib.hid hnew
      clear hnew
      go_wp2_with fail
      refine (redo0_any _ w9 (.inl rfl)).mono ?_
      rintro _ w10 ⟨rfl, hb⟩
      have HB10 := Lib.hid (HB9.out.trans (hb.mono HB9.out.size))
      have HX10 := Lib.hid (HX9.out.below hb HX9.out.lt)
      have HS10 := Lib.hid (HS9.out.below hb HS9.out.lt)
      have HL10 := Lib.hid (HL9.out.below hb HL9.out.lt)
      have HN10 := Lib.hid (HN9.out.below hb HN9.out.lt)
      have HU10 := Lib.hid (HU9.out.below hb HU9.out.lt)
      clear hb HB9 HX9 HS9 HL9 HN9 HU9
      obtain ⟨pR, hpR⟩ : ∃ x, w10.heap.size = x := ⟨_, rfl⟩
      have HWE : Hid (∃ z, w10.alloc (.cells #[.int .i64 0, .slice none 0 0] 27) = z) := Lib.hid ⟨_, rfl⟩
      go_upto_region 11 with fail
      obtain ⟨w11, hw11⟩ := HWE.out
      have hnew : Blk w11 pR 27 #[.int .i64 0, .slice none 0 0] := by rw [← hw11]; exact Blk.new' hpR.symm
      have hb : Below w10.heap.size w10 w11 := by rw [← hw11]; exact (Below.refl _ _).alloc (Nat.le_refl _) _
      (try rw [hpR])
      (try rw [hw11])
      clear HWE hw11 hpR
      have HB11 := Lib.hid (HB10.out.trans (hb.mono HB10.out.size))
      have HX11 := Lib.hid (HX10.out.below hb HX10.out.lt)
      have HS11 := Lib.hid (HS10.out.below hb HS10.out.lt)
      have HL11 := Lib.hid (HL10.out.below hb HL10.out.lt)
      have HN11 := Lib.hid (HN10.out.below hb HN10.out.lt)
      have HU11 := Lib.hid (HU10.out.below hb HU10.out.lt)
      clear hb HB10 HX10 HS10 HL10 HN10 HU10
      have HR11 := Lib.hid hnew
      clear hnew
      have n0 : w11.cell? ⟨pN, 0, none⟩ = some (.int .i64 0) := HN11.out.cell 0
      have n1 : w11.cell? ⟨pN, 1, none⟩ = some (.slice none 0 0) := HN11.out.cell 1
      have nlt := HN11.out.lt
      have u0 : w11.cell? ⟨pU, 0, none⟩ = some (.int .i64 0) := HU11.out.cell 0
      have u1 : w11.cell? ⟨pU, 1, none⟩ = some (.slice none 0 0) := HU11.out.cell 1
      have ult := HU11.out.lt
      have r0 : w11.cell? ⟨pR, 0, none⟩ = some (.int .i64 0) := HR11.out.cell 0
      have r1 : w11.cell? ⟨pR, 1, none⟩ = some (.slice none 0 0) := HR11.out.cell 1
      have rlt := HR11.out.lt
      go_wp2_with fail
      clear n0 n1 nlt u0 u1 ult r0 r1 rlt
      refine (copy0_any _ w11 (.inl rfl)).mono ?_
      rintro _ w12 ⟨rfl, hb⟩
      have HB12 := Lib.hid (HB11.out.trans (hb.mono HB11.out.size))
      have HX12 := Lib.hid (HX11.out.below hb HX11.out.lt)
      have HS12 := Lib.hid (HS11.out.below hb HS11.out.lt)
      have HL12 := Lib.hid (HL11.out.below hb HL11.out.lt)
      have HN12 := Lib.hid (HN11.out.below hb HN11.out.lt)
      have HU12 := Lib.hid (HU11.out.below hb HU11.out.lt)
      have HR12 := Lib.hid (HR11.out.below hb HR11.out.lt)
      clear hb HB11 HX11 HS11 HL11 HN11 HU11 HR11
      go_wp2
      go_roundg (2 - (0 + 1))
      case measure => omega
      case rel => exact ⟨0 + 1, by go_num, rfl, by omega, HB12.out, HX12.out, HS12.out, HL12.out⟩
    by_cases hi1 : i = 1
    · subst hi1
      have l0 : wr.cell? ⟨s + 1, 0, none⟩ = some (.pointer none) := HL.out.cell 0
      have l1 : wr.cell? ⟨s + 1, 1, none⟩ = some (.pointer (some ⟨s, 0, none⟩)) := HL.out.cell 1
      have hllt := HL.out.lt
      go_wp2_with fail
      clear l0 l1 hllt
      refine (now0_any _ wr (.inr ⟨s, rfl, HS.out⟩)).mono ?_
      rintro _ w4 ⟨rfl, hb⟩
      have HB4 := Lib.hid (HB.out.trans (hb.mono HB.out.size))
      have HX4 := Lib.hid (HX.out.below hb HX.out.lt)
      have HS4 := Lib.hid (HS.out.below hb HS.out.lt)
      have HL4 := Lib.hid (HL.out.below hb HL.out.lt)
      clear hb HB HX HS HL
      obtain ⟨pN, hpN⟩ : ∃ x, w4.heap.size = x := ⟨_, rfl⟩
      have HWE : Hid (∃ z, w4.alloc (.cells #[.int .i64 0, .slice none 0 0] 27) = z) := Lib.hid ⟨_, rfl⟩
      go_upto_region 7 with fail
      obtain ⟨w5, hw5⟩ := HWE.out
      have hnew : Blk w5 pN 27 #[.int .i64 0, .slice none 0 0] := by rw [← hw5]; exact Blk.new' hpN.symm
      have hb : Below w4.heap.size w4 w5 := by rw [← hw5]; exact (Below.refl _ _).alloc (Nat.le_refl _) _
      (try rw [hpN])
      (try rw [hw5])
      clear HWE hw5 hpN
      have HB5 := Lib.hid (HB4.out.trans (hb.mono HB4.out.size))
      have HX5 := Lib.hid (HX4.out.below hb HX4.out.lt)
      have HS5 := Lib.hid (HS4.out.below hb HS4.out.lt)
      have HL5 := Lib.hid (HL4.out.below hb HL4.out.lt)
      clear hb HB4 HX4 HS4 HL4
      have HN5 := Lib.hid hnew
      clear hnew
      go_wp2_with fail
      refine (depth0_any _ w5 (.inr ⟨s, rfl, HS5.out⟩)).mono ?_
      rintro _ w6 ⟨rfl, hb⟩
      have HB6 := Lib.hid (HB5.out.trans (hb.mono HB5.out.size))
      have HX6 := Lib.hid (HX5.out.below hb HX5.out.lt)
      have HS6 := Lib.hid (HS5.out.below hb HS5.out.lt)
      have HL6 := Lib.hid (HL5.out.below hb HL5.out.lt)
      have HN6 := Lib.hid (HN5.out.below hb HN5.out.lt)
      clear hb HB5 HX5 HS5 HL5 HN5
      have x0 := HX6.out.cell 0; have x1 := HX6.out.cell 1
      have hxlt := HX6.out.lt
      simp at x0 x1
      go_wp2_with fail
      clear x0 x1 hxlt
      refine (push0_any _ _ _ _ _ w6 (.inr ⟨s, rfl, HS6.out⟩)).mono ?_
      rintro _ w7 ⟨rfl, hb⟩
      have HB7 := Lib.hid (HB6.out.trans (hb.mono HB6.out.size))
      have HX7 := Lib.hid (HX6.out.below hb HX6.out.lt)
      have HS7 := Lib.hid (HS6.out.below hb HS6.out.lt)
      have HL7 := Lib.hid (HL6.out.below hb HL6.out.lt)
      have HN7 := Lib.hid (HN6.out.below hb HN6.out.lt)
      clear hb HB6 HX6 HS6 HL6 HN6
      go_wp2_with fail
      refine (undo0_any _ w7 (.inr ⟨s, rfl, HS7.out⟩)).mono ?_
      rintro _ w8 ⟨rfl, hb⟩
      have HB8 := Lib.hid (HB7.out.trans (hb.mono HB7.out.size))
      have HX8 := Lib.hid (HX7.out.below hb HX7.out.lt)
      have HS8 := Lib.hid (HS7.out.below hb HS7.out.lt)
      have HL8 := Lib.hid (HL7.out.below hb HL7.out.lt)
      have HN8 := Lib.hid (HN7.out.below hb HN7.out.lt)
      clear hb HB7 HX7 HS7 HL7 HN7
      obtain ⟨pU, hpU⟩ : ∃ x, w8.heap.size = x := ⟨_, rfl⟩
      have HWE : Hid (∃ z, w8.alloc (.cells #[.int .i64 0, .slice none 0 0] 27) = z) := Lib.hid ⟨_, rfl⟩
      go_upto_region 10 with fail
      obtain ⟨w9, hw9⟩ := HWE.out
      have hnew : Blk w9 pU 27 #[.int .i64 0, .slice none 0 0] := by rw [← hw9]; exact Blk.new' hpU.symm
      have hb : Below w8.heap.size w8 w9 := by rw [← hw9]; exact (Below.refl _ _).alloc (Nat.le_refl _) _
      (try rw [hpU])
      (try rw [hw9])
      clear HWE hw9 hpU
      have HB9 := Lib.hid (HB8.out.trans (hb.mono HB8.out.size))
      have HX9 := Lib.hid (HX8.out.below hb HX8.out.lt)
      have HS9 := Lib.hid (HS8.out.below hb HS8.out.lt)
      have HL9 := Lib.hid (HL8.out.below hb HL8.out.lt)
      have HN9 := Lib.hid (HN8.out.below hb HN8.out.lt)
      clear hb HB8 HX8 HS8 HL8 HN8
      have HU9 := Lib.hid hnew
      clear hnew
      go_wp2_with fail
      refine (redo0_any _ w9 (.inr ⟨s, rfl, HS9.out⟩)).mono ?_
      rintro _ w10 ⟨rfl, hb⟩
      have HB10 := Lib.hid (HB9.out.trans (hb.mono HB9.out.size))
      have HX10 := Lib.hid (HX9.out.below hb HX9.out.lt)
      have HS10 := Lib.hid (HS9.out.below hb HS9.out.lt)
      have HL10 := Lib.hid (HL9.out.below hb HL9.out.lt)
      have HN10 := Lib.hid (HN9.out.below hb HN9.out.lt)
      have HU10 := Lib.hid (HU9.out.below hb HU9.out.lt)
      clear hb HB9 HX9 HS9 HL9 HN9 HU9
      obtain ⟨pR, hpR⟩ : ∃ x, w10.heap.size = x := ⟨_, rfl⟩
      have HWE : Hid (∃ z, w10.alloc (.cells #[.int .i64 0, .slice none 0 0] 27) = z) := Lib.hid ⟨_, rfl⟩
      go_upto_region 11 with fail
      obtain ⟨w11, hw11⟩ := HWE.out
      have hnew : Blk w11 pR 27 #[.int .i64 0, .slice none 0 0] := by rw [← hw11]; exact Blk.new' hpR.symm
      have hb : Below w10.heap.size w10 w11 := by rw [← hw11]; exact (Below.refl _ _).alloc (Nat.le_refl _) _
      (try rw [hpR])
      (try rw [hw11])
      clear HWE hw11 hpR
      have HB11 := Lib.hid (HB10.out.trans (hb.mono HB10.out.size))
      have HX11 := Lib.hid (HX10.out.below hb HX10.out.lt)
      have HS11 := Lib.hid (HS10.out.below hb HS10.out.lt)
      have HL11 := Lib.hid (HL10.out.below hb HL10.out.lt)
      have HN11 := Lib.hid (HN10.out.below hb HN10.out.lt)
      have HU11 := Lib.hid (HU10.out.below hb HU10.out.lt)
      clear hb HB10 HX10 HS10 HL10 HN10 HU10
      have HR11 := Lib.hid hnew
      clear hnew
      have n0 : w11.cell? ⟨pN, 0, none⟩ = some (.int .i64 0) := HN11.out.cell 0
      have n1 : w11.cell? ⟨pN, 1, none⟩ = some (.slice none 0 0) := HN11.out.cell 1
      have nlt := HN11.out.lt
      have u0 : w11.cell? ⟨pU, 0, none⟩ = some (.int .i64 0) := HU11.out.cell 0
      have u1 : w11.cell? ⟨pU, 1, none⟩ = some (.slice none 0 0) := HU11.out.cell 1
      have ult := HU11.out.lt
      have r0 : w11.cell? ⟨pR, 0, none⟩ = some (.int .i64 0) := HR11.out.cell 0
      have r1 : w11.cell? ⟨pR, 1, none⟩ = some (.slice none 0 0) := HR11.out.cell 1
      have rlt := HR11.out.lt
      go_wp2_with fail
      clear n0 n1 nlt u0 u1 ult r0 r1 rlt
      refine (copy0_any _ w11 (.inr ⟨s, rfl, HS11.out⟩)).mono ?_
      rintro _ w12 ⟨rfl, hb⟩
      have HB12 := Lib.hid (HB11.out.trans (hb.mono HB11.out.size))
      have HX12 := Lib.hid (HX11.out.below hb HX11.out.lt)
      have HS12 := Lib.hid (HS11.out.below hb HS11.out.lt)
      have HL12 := Lib.hid (HL11.out.below hb HL11.out.lt)
      have HN12 := Lib.hid (HN11.out.below hb HN11.out.lt)
      have HU12 := Lib.hid (HU11.out.below hb HU11.out.lt)
      have HR12 := Lib.hid (HR11.out.below hb HR11.out.lt)
      clear hb HB11 HX11 HS11 HL11 HN11 HU11 HR11
      go_wp2
      go_roundg (2 - (1 + 1))
      case measure => omega
      case rel => exact ⟨1 + 1, by go_num, rfl, by omega, HB12.out, HX12.out, HS12.out, HL12.out⟩
    have hi2 : i = 2 := by omega
    subst hi2
    clear hi hi1
    go_wp2
    go_ret
    exact ⟨by simp, HB.out⟩
end Go.Proofs.Ytpjkifbicfcajaa
