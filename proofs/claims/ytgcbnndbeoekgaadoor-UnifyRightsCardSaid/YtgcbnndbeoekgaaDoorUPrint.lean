/- a term's text, of the program and of the document, of any nodes -/
import Derived.Test.YtgcbnndbeoekgaaDoorUShow
import Derived.Test.YtgcbnndbeoekgaaDoorFindB
set_option linter.unusedSimpArgs false
set_option linter.unusedVariables false
namespace Go.Proofs.YtgcbnndbeoekgaaDoor
open Go Go.RowKit

theorem HoldsB.fresh (w : World) {B : Nat} (hB : B ≤ w.heap.size) : HoldsB (w.alloc (.cells #[.pointer none, .slice none 0 0] 64)) B w.heap.size [] :=
  .inl ⟨hB, .slice none 0 0, by show (w.heap.push _)[w.heap.size]? = _; simp, World.ownsRow_nil _ _ _ _, by simp [Value.ownBlock]⟩
set_option maxRecDepth 100000 in
set_option maxHeartbeats 1000000 in
theorem uprint_good (S : Option Addr) (k : Nat) (T : Fo) (w : World) (F : Nat → Prop) (hF : ∀ b, F b → b < w.heap.size) (h1 : T.one) (hw : T.wf) (hl : T.size ≤ 256) (hlc : (T.flat 0).length ≤ k) (hc : k ≤ maxLen) (hr : RowOf 3 ETN w F S (T.flat 0)) (hg : rightI (T.flat 0) = 0) (hz : ∀ t ∈ T.flat 0, t.name.size ≤ 9223372036854775807)
    (ht : Lib.TabIs Tryd.prog w "internal/strconv.uint64pow10" .u64 Lib.pow10Tab) :
    Calls Tryd.prog 10 #[.agg #[.slice S (T.flat 0).length k]] w fun e w' => e = .returned (.string (byt (T.txt false))) ∧ Below w.heap.size w w' := by
  have HSZ : Hid ((T.flat 0).length ≤ 256) := Lib.hid (by rw [Fo.flat_len]; exact hl)
  have HR := Lib.hid hr; have HZ := Lib.hid hz; have HW := Lib.hid hw; have HH1 := Lib.hid h1
  have HTB := Lib.hid (Lib.tabBelow_of_tabIs ht)
  have HRI : Hid (∀ w', Below w.heap.size w w' → Calls Tryd.prog 9 #[.agg #[.slice S (T.flat 0).length k]] w' fun e w2 => e = .returned (.int .i64 0) ∧ Below w'.heap.size w' w2) := Lib.hid (fun w' hb => by
    have := uright_any S k (T.flat 0) w' F (fun b h => Nat.lt_of_lt_of_le (hF b h) hb.size) (hr.keep ETN.stays (Keep.below hb hF) (fun _ h => h)) hlc hc hz
    rw [hg] at this; exact this)
  have HTX : Hid (∀ w' b, Below w.heap.size w w' → HoldsB w' w.heap.size b [] → Calls Tryd.prog 25 #[.pointer (some ⟨b, 0, none⟩), .slice S (T.flat 0).length k, .int .i64 ((0 : Nat) : Int)] w' fun e w2 => e = .returned (.tuple #[]) ∧ HoldsB w2 w.heap.size b ([] ++ T.txt false) ∧ Below w.heap.size w' w2) := Lib.hid (fun w' b hb hx =>
    ushow_any T.size S k (T.flat 0) T 0 w' F w.heap.size b [] (Nat.le_refl _) HH1.out HW.out (Seg.whole T) HSZ.out hlc hc hF (HR.out.keep ETN.stays (Keep.below hb hF) (fun _ h => h)) hx (by simp; omega) hb.size (HTB.out.on hb))
  obtain ⟨n, hn⟩ : ∃ n, (T.flat 0).length = n := ⟨_, rfl⟩
  rw [hn] at HRI HTX ⊢
  clear hr hz hw h1 hn hg hlc hl ht
  go_enter Tryd.func10, Tryd.ntmps10
  go_wp2_with fail
  refine (HRI.out _ ((Below.refl _ _).alloc (Nat.le_refl _) _)).mono ?_
  rintro _ w2 ⟨rfl, hb2⟩
  have hx := (Blk.new w 24 #[.slice S n k]).below hb2 (by simp)
  have HB2 : Hid (Below w.heap.size w w2) := Lib.hid (((Below.refl w.heap.size w).alloc (Nat.le_refl _) _).trans (hb2.mono (by simp)))
  obtain ⟨w3, hw3⟩ : ∃ w3 : World, w2.alloc (.cells #[.pointer none, .slice none 0 0] 64) = w3 := ⟨_, rfl⟩
  have HX3 := hx.alloc (.cells #[.pointer none, .slice none 0 0] 64)
  rw [hw3] at HX3
  have c0 := hx.cell 0
  have c3 := HX3.cell 0
  have hxl := hx.lt
  simp at c0 c3
  have HB3 : Hid (Below w.heap.size w w3) := Lib.hid (by rw [← hw3]; exact HB2.out.alloc HB2.out.size _)
  obtain ⟨b, hbe⟩ : ∃ b, w2.heap.size = b := ⟨_, rfl⟩
  have HHB : Hid (HoldsB w3 w.heap.size b []) := Lib.hid (by rw [← hw3, ← hbe]; exact HoldsB.fresh w2 HB2.out.size)
  have HW3 := Lib.hid hw3; have HBE := Lib.hid hbe
  clear hx hb2 HX3 hw3 hbe
  go_wp2_with fail
  (try rw [HW3.out])
  (try rw [HBE.out])
  refine (HTX.out w3 b HB3.out HHB.out).mono ?_
  rintro _ w4 ⟨rfl, hx4, hb4⟩
  have HB4 := Lib.hid (HB3.out.trans hb4)
  have HS := Lib.hid (Tryd.Builder_String_any w.heap.size b (T.txt false) w4 hx4 HB4.out.size)
  clear hb4 hx4 c0 c3 hxl
  go_wp2_with fail
  refine HS.out.mono ?_
  rintro _ w5 ⟨rfl, hb5⟩
  have HB5 := Lib.hid (HB4.out.trans hb5)
  clear hb5
  go_wp2
  go_ret
  exact ⟨rfl, HB5.out⟩

set_option maxRecDepth 100000 in
set_option maxHeartbeats 1000000 in
theorem uprint_bad (S : Option Addr) (k : Nat) (l : List TN) (w : World) (F : Nat → Prop) (hF : ∀ b, F b → b < w.heap.size) (hlc : l.length ≤ k) (hc : k ≤ maxLen) (hr : RowOf 3 ETN w F S l) (hg : rightI l ≠ 0) (hz : ∀ t ∈ l, t.name.size ≤ 9223372036854775807) :
    Calls Tryd.prog 10 #[.agg #[.slice S l.length k]] w fun e w' => e = .returned (.string ⟨#[]⟩) ∧ Below w.heap.size w w' := by
  have HRI : Hid (∀ w', Below w.heap.size w w' → Calls Tryd.prog 9 #[.agg #[.slice S l.length k]] w' fun e w2 => e = .returned (.int .i64 (rightI l)) ∧ Below w'.heap.size w' w2) := Lib.hid (fun w' hb =>
    uright_any S k l w' F (fun b h => Nat.lt_of_lt_of_le (hF b h) hb.size) (hr.keep ETN.stays (Keep.below hb hF) (fun _ h => h)) hlc hc hz)
  obtain ⟨n, hn⟩ : ∃ n, l.length = n := ⟨_, rfl⟩
  obtain ⟨r, hrr⟩ : ∃ r, rightI l = r := ⟨_, rfl⟩
  rw [hn, hrr] at HRI
  rw [hn]
  rw [hrr] at hg
  have e0 : (r != 0) = true := by simp; exact hg
  have e1 : (r == 0) = false := beq_eq_false_iff_ne.2 hg
  clear hr hz hn hrr hlc hg
  go_enter Tryd.func10, Tryd.ntmps10
  go_wp2_with fail
  refine (HRI.out _ ((Below.refl _ _).alloc (Nat.le_refl _) _)).mono ?_
  rintro _ w2 ⟨rfl, hb2⟩
  have HB2 : Hid (Below w.heap.size w w2) := Lib.hid (((Below.refl w.heap.size w).alloc (Nat.le_refl _) _).trans (hb2.mono (by simp)))
  clear hb2
  go_wp2
  go_ret
  exact ⟨rfl, HB2.out⟩

set_option maxRecDepth 100000 in
set_option maxHeartbeats 1000000 in
theorem rprint_bad (S : Option Addr) (k : Nat) (l : List TN) (w : World) (F : Nat → Prop) (hF : ∀ b, F b → b < w.heap.size) (hlc : l.length ≤ k) (hc : k ≤ maxLen) (hr : RowOf 3 ETN w F S l) (hg : rightI l ≠ 0) (hz : ∀ t ∈ l, t.name.size ≤ 9223372036854775807) :
    Calls Tryd.prog 12 #[.agg #[.slice S l.length k]] w fun e w' => e = .returned (.string ⟨#[]⟩) ∧ Below w.heap.size w w' := by
  have HRI : Hid (∀ w', Below w.heap.size w w' → Calls Tryd.prog 11 #[.agg #[.slice S l.length k]] w' fun e w2 => e = .returned (.int .i64 (rightI l)) ∧ Below w'.heap.size w' w2) := Lib.hid (fun w' hb =>
    rright_any S k l w' F (fun b h => Nat.lt_of_lt_of_le (hF b h) hb.size) (hr.keep ETN.stays (Keep.below hb hF) (fun _ h => h)) hlc hc hz)
  obtain ⟨n, hn⟩ : ∃ n, l.length = n := ⟨_, rfl⟩
  obtain ⟨r, hrr⟩ : ∃ r, rightI l = r := ⟨_, rfl⟩
  rw [hn, hrr] at HRI
  rw [hn]
  rw [hrr] at hg
  have e0 : (r != 0) = true := by simp; exact hg
  have e1 : (r == 0) = false := beq_eq_false_iff_ne.2 hg
  clear hr hz hn hrr hlc hg
  go_enter Tryd.func12, Tryd.ntmps12
  go_wp2_with fail
  refine (HRI.out _ ((Below.refl _ _).alloc (Nat.le_refl _) _)).mono ?_
  rintro _ w2 ⟨rfl, hb2⟩
  have HB2 : Hid (Below w.heap.size w w2) := Lib.hid (((Below.refl w.heap.size w).alloc (Nat.le_refl _) _).trans (hb2.mono (by simp)))
  clear hb2
  go_wp2
  go_ret
  exact ⟨rfl, HB2.out⟩
end Go.Proofs.YtgcbnndbeoekgaaDoor
