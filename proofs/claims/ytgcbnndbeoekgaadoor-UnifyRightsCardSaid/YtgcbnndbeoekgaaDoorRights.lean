/- the law: any nodes are a term, and have a text, just if the chapter says so -/
import Derived.Test.YtgcbnndbeoekgaaDoorUPrint
import Derived.Test.YtgcbnndbeoekgaaDoorData15
set_option linter.unusedSimpArgs false
set_option linter.unusedVariables false
namespace Go.Proofs.YtgcbnndbeoekgaaDoor
open Go Go.RowKit

set_option maxRecDepth 100000 in
set_option maxHeartbeats 4000000 in
theorem rights_any (u : Value) (l : List TN) (w : World) (hx : IsRow 3 ETN w (fun b => b < w.heap.size) u l) (hz : TermAll l) (ht : Lib.TabIs Tryd.prog w "internal/strconv.uint64pow10" .u64 Lib.pow10Tab) :
    Calls Tryd.prog 3 #[.agg #[u]] w fun e w' => e = .returned (.bool true) ∧ Below w.heap.size w w' := by
  obtain ⟨S, k, rfl, hlc, hc, hr⟩ := hx
  have hzn : ∀ t ∈ l, t.name.size ≤ 9223372036854775807 := fun t ht => (hz.1 t ht).1
  have hF : ∀ b, (fun b => b < w.heap.size) b → b < w.heap.size := fun b h => h
  have key : ∃ s : ByteArray, (∀ w', Below w.heap.size w w' → Calls Tryd.prog 10 #[.agg #[.slice S l.length k]] w' fun e w2 => e = .returned (.string s) ∧ Below w'.heap.size w' w2) ∧
      (∀ w', Below w.heap.size w w' → Calls Tryd.prog 12 #[.agg #[.slice S l.length k]] w' fun e w2 => e = .returned (.string s) ∧ Below w'.heap.size w' w2) := by
    by_cases hg : rightI l = 0
    · obtain ⟨T, h1, hw, hl, h6⟩ := good_tree hg
      subst hl
      exact ⟨byt (T.txt false), fun w' hb => uprint_good S k T w' _ (fun b h => Nat.lt_of_lt_of_le h hb.size) h1 hw h6 hlc hc (hr.keep ETN.stays (Keep.below hb hF) (fun _ h => h)) hg hzn ((Lib.tabBelow_of_tabIs ht).on hb).here,
        fun w' hb => rprint_any S k T w' _ (fun b h => Nat.lt_of_lt_of_le h hb.size) h1 hw h6 hlc hc (hr.keep ETN.stays (Keep.below hb hF) (fun _ h => h)) hg hzn⟩
    · exact ⟨⟨#[]⟩, fun w' hb => uprint_bad S k l w' _ (fun b h => Nat.lt_of_lt_of_le h hb.size) hlc hc (hr.keep ETN.stays (Keep.below hb hF) (fun _ h => h)) hg hzn,
        fun w' hb => rprint_bad S k l w' _ (fun b h => Nat.lt_of_lt_of_le h hb.size) hlc hc (hr.keep ETN.stays (Keep.below hb hF) (fun _ h => h)) hg hzn⟩
  obtain ⟨s, hu, hp⟩ := key
  have HU := Lib.hid hu; have HP := Lib.hid hp
  have HUR : Hid (∀ w', Below w.heap.size w w' → Calls Tryd.prog 9 #[.agg #[.slice S l.length k]] w' fun e w2 => e = .returned (.int .i64 (rightI l)) ∧ Below w'.heap.size w' w2) := Lib.hid (fun w' hb =>
    uright_any S k l w' _ (fun b h => Nat.lt_of_lt_of_le h hb.size) (hr.keep ETN.stays (Keep.below hb hF) (fun _ h => h)) hlc hc hzn)
  have HRR : Hid (∀ w', Below w.heap.size w w' → Calls Tryd.prog 11 #[.agg #[.slice S l.length k]] w' fun e w2 => e = .returned (.int .i64 (rightI l)) ∧ Below w'.heap.size w' w2) := Lib.hid (fun w' hb =>
    rright_any S k l w' _ (fun b h => Nat.lt_of_lt_of_le h hb.size) (hr.keep ETN.stays (Keep.below hb hF) (fun _ h => h)) hlc hc hzn)
  obtain ⟨n, hn⟩ : ∃ n, l.length = n := ⟨_, rfl⟩
  obtain ⟨r, hrr⟩ : ∃ r, rightI l = r := ⟨_, rfl⟩
  rw [hn, hrr] at HUR HRR
  rw [hn] at HU HP ⊢
  have g1 : (r == r) = true := by simp
  clear hr hz hzn hn hrr hu hp hlc ht hF
  go_enter Tryd.func3, Tryd.ntmps3
  have HB0 : Hid (Below w.heap.size w (w.alloc (.cells #[.slice S n k] 24))) := Lib.hid ((Below.refl _ _).alloc (Nat.le_refl _) _)
  have HX0 : Hid (Blk (w.alloc (.cells #[.slice S n k] 24)) w.heap.size 24 #[.slice S n k]) := Lib.hid (Blk.new _ _ _)
  go_wp2_with fail
  refine (HUR.out _ HB0.out).mono ?_
  rintro _ w2 ⟨rfl, hb2⟩
  have HB2 : Hid (Below w.heap.size w w2) := Lib.hid (HB0.out.trans (hb2.mono HB0.out.size))
  have HX2 := Lib.hid (HX0.out.below hb2 HX0.out.lt)
  have c0 := HX2.out.cell 0
  have hxl := HX2.out.lt
  simp at c0
  clear hb2 HB0 HX0
  go_wp2_with fail
  refine (HU.out _ HB2.out).mono ?_
  rintro _ w3 ⟨rfl, hb3⟩
  have HB3 : Hid (Below w.heap.size w w3) := Lib.hid (HB2.out.trans (hb3.mono HB2.out.size))
  have HX3 := Lib.hid (HX2.out.below hb3 HX2.out.lt)
  clear c0 hxl hb3 HB2 HX2
  have c0 := HX3.out.cell 0
  have hxl := HX3.out.lt
  simp at c0
  go_wp2_with fail
  refine (HRR.out _ HB3.out).mono ?_
  rintro _ w4 ⟨rfl, hb4⟩
  have HB4 : Hid (Below w.heap.size w w4) := Lib.hid (HB3.out.trans (hb4.mono HB3.out.size))
  have HX4 := Lib.hid (HX3.out.below hb4 HX3.out.lt)
  clear c0 hxl hb4 HB3 HX3
  have c0 := HX4.out.cell 0
  have hxl := HX4.out.lt
  simp at c0
  go_wp2_with fail
  refine (HP.out _ HB4.out).mono ?_
  rintro _ w5 ⟨rfl, hb5⟩
  have HB5 : Hid (Below w.heap.size w w5) := Lib.hid (HB4.out.trans (hb5.mono HB4.out.size))
  clear c0 hxl hb5 HB4 HX4
  go_wp2
  go_ret
  exact ⟨rfl, HB5.out⟩
end Go.Proofs.YtgcbnndbeoekgaaDoor
