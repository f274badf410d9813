/- bounds in memory; what stands for a hole, as the document looks it up; its Print -/
import Derived.Test.YtgcbnndbeoekgaaDoorTextR
set_option linter.unusedSimpArgs false
set_option linter.unusedVariables false
namespace Go.Proofs.YtgcbnndbeoekgaaDoor
open Go Go.RowKit

def EBind (w : World) (F : Nat → Prop) (x : ABind) (cs : List Value) : Prop := ∃ v, cs = [.int .i64 x.hole, v] ∧ IsRow 3 ETN w F v x.term
theorem EBind.stays : Stays EBind := fun _ _ _ _ _ _ hF hk ⟨v, e, h⟩ => ⟨v, e, h.keep ETN.stays hk hF⟩
set_option maxRecDepth 100000 in
set_option maxHeartbeats 1000000 in
/-- a term's text -/
theorem rprint_any (S : Option Addr) (k : Nat) (T : Fo) (w : World) (F : Nat → Prop) (hF : ∀ b, F b → b < w.heap.size) (h1 : T.one) (hw : T.wf) (hl : T.size ≤ 256) (hlc : (T.flat 0).length ≤ k) (hc : k ≤ maxLen) (hr : RowOf 3 ETN w F S (T.flat 0)) (hg : rightI (T.flat 0) = 0) (hz : ∀ t ∈ T.flat 0, t.name.size ≤ 9223372036854775807) :
    Calls Tryd.prog 12 #[.agg #[.slice S (T.flat 0).length k]] w fun e w' => e = .returned (.string (byt (T.txt false))) ∧ Below w.heap.size w w' := by
  have HSZ : Hid ((T.flat 0).length ≤ 256) := Lib.hid (by rw [Fo.flat_len]; exact hl)
  have HR := Lib.hid hr; have HZ := Lib.hid hz; have HW := Lib.hid hw; have HH1 := Lib.hid h1
  have HRI : Hid (∀ w', Below w.heap.size w w' → Calls Tryd.prog 11 #[.agg #[.slice S (T.flat 0).length k]] w' fun e w2 => e = .returned (.int .i64 0) ∧ Below w'.heap.size w' w2) := Lib.hid (fun w' hb => by
    have := rright_any S k (T.flat 0) w' F (fun b h => Nat.lt_of_lt_of_le (hF b h) hb.size) (hr.keep ETN.stays (Keep.below hb hF) (fun _ h => h)) hlc hc hz
    rw [hg] at this; exact this)
  have HTX : Hid (∀ w', Below w.heap.size w w' → Calls Tryd.prog 29 #[.slice S (T.flat 0).length k, .int .i64 ((0 : Nat) : Int)] w' fun e w2 => e = .returned (.string (byt (T.txt false))) ∧ Below w'.heap.size w' w2) := Lib.hid (fun w' hb =>
    rtext_any T.size S k (T.flat 0) T 0 w' F (Nat.le_refl _) HH1.out HW.out (Seg.whole T) HSZ.out hlc hc (fun b h => Nat.lt_of_lt_of_le (hF b h) hb.size) (HR.out.keep ETN.stays (Keep.below hb hF) (fun _ h => h)))
  obtain ⟨n, hn⟩ : ∃ n, (T.flat 0).length = n := ⟨_, rfl⟩
  rw [hn] at HRI HTX ⊢
  clear hr hz hw h1 hn hg hlc hl
  go_enter Tryd.func12, Tryd.ntmps12
  go_wp2_with fail
  refine (HRI.out _ ((Below.refl _ _).alloc (Nat.le_refl _) _)).mono ?_
  rintro _ w2 ⟨rfl, hb2⟩
  have hx := (Blk.new w 24 #[.slice S n k]).below hb2 (by simp)
  have HB2 : Hid (Below w.heap.size w w2) := Lib.hid (((Below.refl w.heap.size w).alloc (Nat.le_refl _) _).trans (hb2.mono (by simp)))
  have c0 := hx.cell 0
  have hxl := hx.lt
  simp at c0
  clear hx hb2
  go_wp2_with fail
  refine (HTX.out _ HB2.out).mono ?_
  rintro _ w3 ⟨rfl, hb3⟩
  have HB3 := Lib.hid (HB2.out.trans (hb3.mono HB2.out.size))
  clear hb3 c0 hxl
  go_wp2
  go_ret
  exact ⟨rfl, HB3.out⟩
end Go.Proofs.YtgcbnndbeoekgaaDoor
