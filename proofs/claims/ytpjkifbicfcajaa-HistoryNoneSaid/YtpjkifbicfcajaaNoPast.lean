/- a past that is nil, or that nobody made -/
import Derived.Test.YtpjkifbicfcajaaPastP
set_option linter.unusedSimpArgs false
set_option linter.unusedVariables false
namespace Go.Proofs.Ytpjkifbicfcajaa
open Go Go.RowKit

/-- no past -/
def NoPast (w : World) (v : Value) : Prop := v = .pointer none ∨ ∃ q, v = .pointer (some ⟨q, 0, none⟩) ∧ Blk w q 69 #[.slice none 0 0, .int .i64 0]
theorem NoPast.below {w w' : World} {v : Value} (h : NoPast w v) (hb : Below w.heap.size w w') : NoPast w' v := h.imp id fun ⟨q, e, h⟩ => ⟨q, e, h.below hb h.lt⟩
theorem NoPast.shape {w : World} {v : Value} (h : NoPast w v) : ∃ a, v = .pointer a := h.elim (fun e => ⟨_, e⟩) fun ⟨_, e, _⟩ => ⟨_, e⟩
set_option maxRecDepth 100000 in
theorem none_yes (v : Value) (w : World) (h : NoPast w v) : Calls Try.prog 41 #[v] w fun e w' => e = .returned (.bool true) ∧ w = w' := by
  rcases h with rfl | ⟨q, rfl, hb⟩
  · go_enter Try.func41, Try.ntmps41
    go_wp2
    go_ret
    exact ⟨by simp, rfl⟩
  · have b0 := hb.cell 0
    have hlt := hb.lt
    simp at b0
    go_enter Try.func41, Try.ntmps41
    go_wp2
    go_ret
    exact ⟨by simp, rfl⟩
set_option maxRecDepth 100000 in
set_option maxHeartbeats 1000000 in
theorem now0_any (v : Value) (w : World) (h : NoPast w v) : Calls Try.prog 32 #[v] w fun e w' => e = .returned (.agg #[.int .i64 0, .slice none 0 0]) ∧ Below w.heap.size w w' := by
  have HH := Lib.hid h
  obtain ⟨a, rfl⟩ := h.shape
  clear h
  go_enter Try.func32, Try.ntmps32
  go_wp2_with (go_at_call 41; refine (none_yes _ _ (HH.out.below (by first | exact Below.refl _ _ | exact (Below.refl _ _).alloc (Nat.le_refl _) _))).mono ?_; rintro _ _ ⟨rfl, rfl⟩)
  refine bodyPost_ret (v := .agg #[.int .i64 0, .slice none 0 0]) (by simp [results, Try.results32, go_sem]) rfl ⟨rfl, ?_⟩
  first | exact Below.refl _ _ | exact (Below.refl _ _).alloc (Nat.le_refl _) _ | exact (((Below.refl w.heap.size w).alloc (Nat.le_refl _) _).setCell (p := ⟨w.heap.size, 0, none⟩) (Nat.le_refl _) _).setCell (p := ⟨w.heap.size, 1, none⟩) (Nat.le_refl _) _
set_option maxRecDepth 100000 in
set_option maxHeartbeats 1000000 in
theorem depth0_any (v : Value) (w : World) (h : NoPast w v) : Calls Try.prog 33 #[v] w fun e w' => e = .returned (.tuple #[.int .i64 0, .int .i64 0]) ∧ Below w.heap.size w w' := by
  have HH := Lib.hid h
  obtain ⟨a, rfl⟩ := h.shape
  clear h
  go_enter Try.func33, Try.ntmps33
  go_wp2_with (go_at_call 41; refine (none_yes _ _ (HH.out.below (by first | exact Below.refl _ _ | exact (Below.refl _ _).alloc (Nat.le_refl _) _))).mono ?_; rintro _ _ ⟨rfl, rfl⟩)
  refine bodyPost_ret (v := .tuple #[.int .i64 0, .int .i64 0]) (by simp [results, Try.results33, go_sem]) rfl ⟨rfl, ?_⟩
  first | exact Below.refl _ _ | exact (Below.refl _ _).alloc (Nat.le_refl _) _ | exact (((Below.refl w.heap.size w).alloc (Nat.le_refl _) _).setCell (p := ⟨w.heap.size, 0, none⟩) (Nat.le_refl _) _).setCell (p := ⟨w.heap.size, 1, none⟩) (Nat.le_refl _) _
set_option maxRecDepth 100000 in
set_option maxHeartbeats 1000000 in
theorem push0_any (v : Value) (m : Int) (A : Option Addr) (n c : Nat) (w : World) (h : NoPast w v) : Calls Try.prog 16 #[v, .agg #[.int .i64 m, .slice A n c]] w fun e w' => e = .returned (.int .i64 1) ∧ Below w.heap.size w w' := by
  have HH := Lib.hid h
  obtain ⟨a, rfl⟩ := h.shape
  clear h
  go_enter Try.func16, Try.ntmps16
  go_wp2_with (go_at_call 41; refine (none_yes _ _ (HH.out.below (by first | exact Below.refl _ _ | exact (Below.refl _ _).alloc (Nat.le_refl _) _))).mono ?_; rintro _ _ ⟨rfl, rfl⟩)
  refine bodyPost_ret (v := .int .i64 1) (by simp [results, Try.results16, go_sem]) rfl ⟨rfl, ?_⟩
  first | exact Below.refl _ _ | exact (Below.refl _ _).alloc (Nat.le_refl _) _ | exact (((Below.refl w.heap.size w).alloc (Nat.le_refl _) _).setCell (p := ⟨w.heap.size, 0, none⟩) (Nat.le_refl _) _).setCell (p := ⟨w.heap.size, 1, none⟩) (Nat.le_refl _) _
set_option maxRecDepth 100000 in
set_option maxHeartbeats 1000000 in
theorem copy0_any (v : Value) (w : World) (h : NoPast w v) : Calls Try.prog 23 #[v] w fun e w' => e = .returned (.pointer none) ∧ Below w.heap.size w w' := by
  have HH := Lib.hid h
  obtain ⟨a, rfl⟩ := h.shape
  clear h
  go_enter Try.func23, Try.ntmps23
  go_wp2_with (go_at_call 41; refine (none_yes _ _ (HH.out.below (by first | exact Below.refl _ _ | exact (Below.refl _ _).alloc (Nat.le_refl _) _))).mono ?_; rintro _ _ ⟨rfl, rfl⟩)
  refine bodyPost_ret (v := .pointer none) (by simp [results, Try.results23, go_sem]) rfl ⟨rfl, ?_⟩
  first | exact Below.refl _ _ | exact (Below.refl _ _).alloc (Nat.le_refl _) _ | exact (((Below.refl w.heap.size w).alloc (Nat.le_refl _) _).setCell (p := ⟨w.heap.size, 0, none⟩) (Nat.le_refl _) _).setCell (p := ⟨w.heap.size, 1, none⟩) (Nat.le_refl _) _
set_option maxRecDepth 100000 in
set_option maxHeartbeats 1000000 in
theorem to0_any (v : Value) (n : Int) (w : World) (h : NoPast w v) : Calls Try.prog 42 #[v, .int .i64 n] w fun e w' => e = .returned (.tuple #[.agg #[.int .i64 0, .slice none 0 0], .int .i64 1]) ∧ Below w.heap.size w w' := by
  have HH := Lib.hid h
  obtain ⟨a, rfl⟩ := h.shape
  clear h
  go_enter Try.func42, Try.ntmps42
  go_wp2_with (go_at_call 41; refine (none_yes _ _ (HH.out.below (by first | exact Below.refl _ _ | exact (Below.refl _ _).alloc (Nat.le_refl _) _))).mono ?_; rintro _ _ ⟨rfl, rfl⟩)
  refine bodyPost_ret (v := .tuple #[.agg #[.int .i64 0, .slice none 0 0], .int .i64 1]) (by simp [results, Try.results42, go_sem]) rfl ⟨rfl, ?_⟩
  first | exact Below.refl _ _ | exact (Below.refl _ _).alloc (Nat.le_refl _) _ | exact (((Below.refl w.heap.size w).alloc (Nat.le_refl _) _).setCell (p := ⟨w.heap.size, 0, none⟩) (Nat.le_refl _) _).setCell (p := ⟨w.heap.size, 1, none⟩) (Nat.le_refl _) _
set_option maxRecDepth 100000 in
set_option maxHeartbeats 1000000 in
theorem undo0_any (v : Value) (w : World) (h : NoPast w v) : Calls Try.prog 18 #[v] w fun e w' => e = .returned (.tuple #[.agg #[.int .i64 0, .slice none 0 0], .int .i64 1]) ∧ Below w.heap.size w w' := by
  have HH := Lib.hid h
  obtain ⟨a, rfl⟩ := h.shape
  clear h
  go_enter Try.func18, Try.ntmps18
  go_upto_region 1 with fail
  obtain ⟨u0, hu0⟩ : ∃ u : World, w.alloc (.cells #[.int .i64 0, .slice none 0 0] 27) = u := ⟨_, rfl⟩
  have HB0 : Hid (Below w.heap.size w u0) := Lib.hid (by rw [← hu0]; exact (Below.refl w.heap.size w).alloc (Nat.le_refl _) _)
  have HQ0 : Hid (Blk u0 w.heap.size 27 #[.int .i64 0, .slice none 0 0]) := Lib.hid (by rw [← hu0]; exact Blk.new _ _ _)
  (try rw [hu0])
  clear hu0
  go_wp2_with fail
  refine (to0_any _ _ u0 (HH.out.below HB0.out)).mono ?_
  rintro _ w1 ⟨rfl, hb⟩
  have HQ1 := Lib.hid (HQ0.out.below hb HQ0.out.lt)
  have HB1 := Lib.hid (HB0.out.trans (hb.mono HB0.out.size))
  clear hb
  have q0 := HQ1.out.cell 0; have q1 := HQ1.out.cell 1
  have y0 := HQ1.out.frozen 0; have y1 := HQ1.out.frozen 1
  have hq1lt := HQ1.out.lt
  simp at q0 q1
  go_wp2
  have f0 := ((HQ1.out.set_ 0 (.int .i64 0)).set_ 1 (.slice none 0 0))
  have f1 := f0.cell 0; have f2 := f0.cell 1
  simp at f1 f2
  refine bodyPost_ret (v := .tuple #[.agg #[.int .i64 0, .slice none 0 0], .int .i64 1]) (by simp [results, Try.results18, go_sem, f1, f2]) rfl ⟨rfl, (HB1.out.setCell (p := ⟨w.heap.size, 0, none⟩) (Nat.le_refl _) _).setCell (p := ⟨w.heap.size, 1, none⟩) (Nat.le_refl _) _⟩
set_option maxRecDepth 100000 in
set_option maxHeartbeats 1000000 in
theorem redo0_any (v : Value) (w : World) (h : NoPast w v) : Calls Try.prog 21 #[v] w fun e w' => e = .returned (.tuple #[.agg #[.int .i64 0, .slice none 0 0], .int .i64 1]) ∧ Below w.heap.size w w' := by
  have HH := Lib.hid h
  obtain ⟨a, rfl⟩ := h.shape
  clear h
  go_enter Try.func21, Try.ntmps21
  go_upto_region 1 with fail
  obtain ⟨u0, hu0⟩ : ∃ u : World, w.alloc (.cells #[.int .i64 0, .slice none 0 0] 27) = u := ⟨_, rfl⟩
  have HB0 : Hid (Below w.heap.size w u0) := Lib.hid (by rw [← hu0]; exact (Below.refl w.heap.size w).alloc (Nat.le_refl _) _)
  have HQ0 : Hid (Blk u0 w.heap.size 27 #[.int .i64 0, .slice none 0 0]) := Lib.hid (by rw [← hu0]; exact Blk.new _ _ _)
  (try rw [hu0])
  clear hu0
  go_wp2_with fail
  refine (to0_any _ _ u0 (HH.out.below HB0.out)).mono ?_
  rintro _ w1 ⟨rfl, hb⟩
  have HQ1 := Lib.hid (HQ0.out.below hb HQ0.out.lt)
  have HB1 := Lib.hid (HB0.out.trans (hb.mono HB0.out.size))
  clear hb
  have q0 := HQ1.out.cell 0; have q1 := HQ1.out.cell 1
  have y0 := HQ1.out.frozen 0; have y1 := HQ1.out.frozen 1
  have hq1lt := HQ1.out.lt
  simp at q0 q1
  go_wp2
  have f0 := ((HQ1.out.set_ 0 (.int .i64 0)).set_ 1 (.slice none 0 0))
  have f1 := f0.cell 0; have f2 := f0.cell 1
  simp at f1 f2
  refine bodyPost_ret (v := .tuple #[.agg #[.int .i64 0, .slice none 0 0], .int .i64 1]) (by simp [results, Try.results21, go_sem, f1, f2]) rfl ⟨rfl, (HB1.out.setCell (p := ⟨w.heap.size, 0, none⟩) (Nat.le_refl _) _).setCell (p := ⟨w.heap.size, 1, none⟩) (Nat.le_refl _) _⟩
end Go.Proofs.Ytpjkifbicfcajaa
