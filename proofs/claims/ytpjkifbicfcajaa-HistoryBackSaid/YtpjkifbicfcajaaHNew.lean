import Derived.Test.YtpjkifbicfcajaaHNow
import Derived.Test.YtpjkifbicfcajaaACheck
set_option linter.unusedSimpArgs false
set_option linter.unusedVariables false
/- a past that is made, or copied -/
namespace Go.Proofs.Ytpjkifbicfcajaa
open Go Go.RowKit

open Classical in
theorem checkI_two (m : AModel) : checkI m = 0 ∨ checkI m = 29 := by
  unfold checkI
  cases decide (CheckM m)
  · exact .inr rfl
  · exact .inl rfl
theorem one_model {w : World} {q : Nat} {F : Nat → Prop} {m : AModel} {v : Value} (hb : Blk w q 27 #[.int .i64 m.next, v]) (hv : IsRow 7 ENode w F v m.nodes) (hq : F q) : RowOf 2 EModel w F (some ⟨q, 0, none⟩) [m] := by
  refine ⟨fun _ => ⟨q, 0, rfl, hq⟩, fun i hi => ⟨[.int .i64 m.next, v], rfl, ?_, fun b off e j hj => ?_⟩⟩
  · have hi0 : i = 0 := by simp at hi; omega
    subst hi0
    exact ⟨v, rfl, hv⟩
  · have hi0 : i = 0 := by simp at hi; omega
    subst hi0
    cases e
    rw [hb.cell]
    simp
set_option maxRecDepth 100000 in
set_option maxHeartbeats 2000000 in
theorem new_any (A : Option Addr) (c : Nat) (m : AModel) (w : World) (F : Nat → Prop) (hF : ∀ b, F b → b < w.heap.size) (h : RowOf 7 ENode w F A m.nodes) (hz : ModAll m) :
    Calls Try.prog 12 #[.agg #[.int .i64 m.next, .slice A m.nodes.length c]] w fun e w' => ∃ pv, e = .returned (.tuple #[pv, .int .i64 (checkI m)]) ∧ Below w.heap.size w w' ∧ (checkI m ≠ 0 → pv = .pointer none) ∧
      (checkI m = 0 → ∃ p, pv = .pointer (some ⟨p, 0, none⟩) ∧ w.heap.size ≤ p ∧ IsPast w' (fun b => w.heap.size ≤ b ∧ b < p) p ⟨[], m, []⟩) := by
  rcases checkI_two m with hE | hE
  · have HC : Hid (∀ w', Below w.heap.size w w' → Calls Try.prog 30 #[.agg #[.int .i64 m.next, .slice A m.nodes.length c]] w' fun e w2 => e = .returned (.int .i64 0) ∧ Below w'.heap.size w' w2) := Lib.hid (fun w' hb => by
      have := check_any A c m w' F (fun b hx => Nat.lt_of_lt_of_le (hF b hx) hb.size) (h.keep ENode.stays (Keep.below hb hF) (fun _ h => h)) (fun x hx => (hz.1 x hx).1) (by have := hz.2.2; omega)
      rw [hE] at this
      exact this)
    rw [hE]
    have HE := Lib.hid hE; have HH := Lib.hid h
    clear hE h
    go_enter Try.func12, Try.ntmps12
    go_upto_region 1 with fail
    obtain ⟨u0, hu0⟩ : ∃ u : World, w.alloc (.cells #[.int .i64 m.next, .slice A m.nodes.length c] 27) = u := ⟨_, rfl⟩
    have HB0 : Hid (Below w.heap.size w u0) := Lib.hid (by rw [← hu0]; exact (Below.refl w.heap.size w).alloc (Nat.le_refl _) _)
    have HM0 : Hid (Blk u0 w.heap.size 27 #[.int .i64 m.next, .slice A m.nodes.length c]) := Lib.hid (by rw [← hu0]; exact Blk.new _ _ _)
    have m0 := HM0.out.cell 0; have m1 := HM0.out.cell 1
    have hmlt := HM0.out.lt
    simp at m0 m1
    (try rw [hu0])
    clear hu0
    go_wp2_with fail
    refine (HC.out _ HB0.out).mono ?_
    rintro _ w1 ⟨rfl, hb⟩
    have HB1 := Lib.hid (HB0.out.trans (hb.mono HB0.out.size))
    have HM1 := Lib.hid (HM0.out.below hb hmlt)
    clear hb HB0 HM0 m0 m1 hmlt
    have m0 := HM1.out.cell 0; have m1 := HM1.out.cell 1
    have hmlt := HM1.out.lt
    simp at m0 m1
    go_wp2_with fail
    refine (htwin_any A c m w1 F (fun b hb => Nat.lt_of_lt_of_le (hF b hb) HB1.out.size) (HH.out.keep ENode.stays (Keep.below HB1.out hF) (fun _ h => h)) (fun x hx => (hz.1 x hx).2.1) hz.2.2).mono ?_
    rintro _ w2 ⟨v, rfl, l, hown, hmap, hb⟩
    have HO := Lib.hid hown; have HMAP := Lib.hid hmap
    have HB2 := Lib.hid (HB1.out.trans (hb.mono HB1.out.size))
    have HS2 : Hid (w.heap.size ≤ w1.heap.size ∧ w1.heap.size ≤ w2.heap.size) := Lib.hid ⟨HB1.out.size, hb.size⟩
    obtain ⟨Av, cv, rfl⟩ : ∃ A c, v = .slice A m.nodes.length c := by
      obtain ⟨A', c', e⟩ := own_shape hown.row
      exact ⟨A', c', by rw [e, ← hmap, List.length_map]⟩
    clear hown hmap hb m0 m1 hmlt
    obtain ⟨q, hq⟩ : ∃ q, w2.heap.size = q := ⟨_, rfl⟩
    go_wp2
    have hB3 : Below w.heap.size w ((w2.alloc (.cells #[.int .i64 m.next, .slice Av m.nodes.length cv] 27)).alloc (.cells #[.slice (some ⟨q, 0, none⟩) 1 1, .int .i64 0] 69)) := (HB2.out.alloc HB2.out.size _).alloc (by have := HB2.out.size; simp; omega) _
    refine bodyPost_ret (v := .tuple #[.pointer (some ⟨q + 1, 0, none⟩), .int .i64 0]) (by simp [results, Try.results12, go_sem, hq]) rfl ⟨_, rfl, by rw [← hq] at hB3 ⊢; exact hB3, fun e => absurd rfl e, fun _ => ⟨q + 1, rfl, by have := HS2.out; omega, some ⟨q, 0, none⟩, 1, ?_, by simp [APast.list], by unfold maxLen; omega, ?_⟩⟩
    · exact Blk.new' (by simp [hq])
    · refine one_model (v := .slice Av m.nodes.length cv) ((Blk.new' hq.symm).alloc _) ?_ (by have := HS2.out; omega)
      have := HO.out.isRow (F := fun b => w.heap.size ≤ b ∧ b < q) (fun b h1 h2 => ⟨by have := HS2.out; omega, by omega⟩)
      rw [HMAP.out] at this
      exact this.keep ENode.stays (Keep.below (((Below.refl w2.heap.size w2).alloc (Nat.le_refl _) _).alloc (by simp) _) (fun b hb => by have := hb.2; omega)) (fun b hb => ⟨hb.1, by have := hb.2; omega⟩)
  · have HC : Hid (∀ w', Below w.heap.size w w' → Calls Try.prog 30 #[.agg #[.int .i64 m.next, .slice A m.nodes.length c]] w' fun e w2 => e = .returned (.int .i64 29) ∧ Below w'.heap.size w' w2) := Lib.hid (fun w' hb => by
      have := check_any A c m w' F (fun b hx => Nat.lt_of_lt_of_le (hF b hx) hb.size) (h.keep ENode.stays (Keep.below hb hF) (fun _ h => h)) (fun x hx => (hz.1 x hx).1) (by have := hz.2.2; omega)
      rw [hE] at this
      exact this)
    rw [hE]
    have HE := Lib.hid hE; have HH := Lib.hid h
    clear hE h
    go_enter Try.func12, Try.ntmps12
    go_upto_region 1 with fail
    obtain ⟨u0, hu0⟩ : ∃ u : World, w.alloc (.cells #[.int .i64 m.next, .slice A m.nodes.length c] 27) = u := ⟨_, rfl⟩
    have HB0 : Hid (Below w.heap.size w u0) := Lib.hid (by rw [← hu0]; exact (Below.refl w.heap.size w).alloc (Nat.le_refl _) _)
    have HM0 : Hid (Blk u0 w.heap.size 27 #[.int .i64 m.next, .slice A m.nodes.length c]) := Lib.hid (by rw [← hu0]; exact Blk.new _ _ _)
    have m0 := HM0.out.cell 0; have m1 := HM0.out.cell 1
    have hmlt := HM0.out.lt
    simp at m0 m1
    (try rw [hu0])
    clear hu0
    go_wp2_with fail
    refine (HC.out _ HB0.out).mono ?_
    rintro _ w1 ⟨rfl, hb⟩
    have HB1 := Lib.hid (HB0.out.trans (hb.mono HB0.out.size))
    have HM1 := Lib.hid (HM0.out.below hb hmlt)
    clear hb HB0 HM0 m0 m1 hmlt
    have m0 := HM1.out.cell 0; have m1 := HM1.out.cell 1
    have hmlt := HM1.out.lt
    simp at m0 m1
    go_wp2
    refine bodyPost_ret (v := .tuple #[.pointer none, .int .i64 29]) (by simp [results, Try.results12, go_sem]) rfl ⟨_, rfl, HB1.out, fun _ => rfl, fun e => by cases e⟩
end Go.Proofs.Ytpjkifbicfcajaa
