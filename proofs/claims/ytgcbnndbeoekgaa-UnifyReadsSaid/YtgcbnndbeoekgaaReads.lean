import Derived.Test.YtgcbnndbeoekgaaAlike
import Derived.Test.YtgcbnndbeoekgaaRefParse
namespace Go.Proofs.Ytgcbnndbeoekgaa
open Go Go.RowKit

set_option maxRecDepth 100000 in
set_option maxHeartbeats 1000000 in
theorem reads_any (s : ByteArray) (hs : s.size ≤ 9223372036854775807) (w : World) : Calls Try.prog 3 #[.string s] w fun e w' => e = .returned (.bool true) ∧ Below w.heap.size w w' := by
  go_enter Try.func3, Try.ntmps3
  go_wp2_with fail
  refine (parse_any s hs _).mono ?_
  rintro _ w1 ⟨v, i, err, l, rfl, hS, hb1, hr1⟩
  have HS := Lib.hid hS; have HB1 := Lib.hid hb1; have HR1 := Lib.hid hr1
  obtain ⟨A, c, rfl, _⟩ := hr1
  clear hS hb1
  go_wp2_with fail
  refine (refParse_any s hs _).mono ?_
  rintro _ w2 ⟨v', i', err', l', rfl, hS', hb2, hr2⟩
  obtain ⟨rfl, rfl, rfl⟩ := HS.out.same hS'
  have hk : Keep (fun b => b < w1.heap.size) w1 w2 := (Keep.alloc w1 _ (fun _ h => h)).trans (Keep.below hb2 (fun b h => by simp; omega))
  have hsz := hb2.size
  simp at hsz
  have HR1' := Lib.hid (HR1.out.keep (F' := fun b => b < w2.heap.size) ETN.stays hk (fun b h => by omega))
  have hx := (Blk.new w1 24 #[.slice A l.length c]).below hb2 (by simp)
  have hx0 := hx.cell 0
  simp at hx0
  have hlt : w1.heap.size < w2.heap.size := by omega
  have HB2 := Lib.hid (HB1.out.trans (((Below.refl w1.heap.size w1).alloc (Nat.le_refl _) _ |>.trans (hb2.mono (by simp))).mono HB1.out.size))
  have HR2 := Lib.hid hr2
  obtain ⟨A', c', rfl, _⟩ := hr2
  clear hS' hb2 hk HS HB1 HR1 hx
  go_wp2_with fail
  refine (alike_any (.slice A l.length c) (.slice A' l.length c') l _ (HR1'.out.keep ETN.stays (Keep.alloc _ _ (fun _ h => h)) (fun b h => by simp; omega)) (HR2.out.keep ETN.stays (Keep.alloc _ _ (fun _ h => h)) (fun b h => by simp; omega))).mono ?_
  rintro _ w3 ⟨rfl, hb3⟩
  have HB3 := Lib.hid (HB2.out.trans (((Below.refl w2.heap.size w2).alloc (Nat.le_refl _) _ |>.trans (hb3.mono (by simp))).mono HB2.out.size))
  clear hb3
  go_wp2
  go_ret
  exact ⟨rfl, HB3.out⟩
end Go.Proofs.Ytgcbnndbeoekgaa
