import Derived.Test.YtfnainlijkeekaaProg
import Derived.Test.YtfnainlijkeekaaLines
import Derived.Deep.RegionHeld3
namespace Go.Proofs.Ytfnainlijkeekaa
open Go Go.RowKit

theorem line_info : (Try.prog.info? 25).map (fun i => (i.zero, i.size, i.bytes)) = some (some (.agg #[.string { data := #[] }, .slice none 0 0]), 2, 40) := by kernel_rfl
theorem spot_info : (Try.prog.info? 28).map (fun i => (i.zero, i.size, i.bytes)) = some (some (.agg #[.int .i64 0, .int .i64 0, .string { data := #[] }, .int .i64 0, .int .i64 0]), 5, 48) := by kernel_rfl

theorem spots_one (l : List Spot) : ∀ u ∈ l.flatMap Spot.cells, u.oneCell' = true := by
  intro u hu
  obtain ⟨x, _, hx⟩ := List.mem_flatMap.1 hu
  simp only [Spot.cells, List.mem_cons, List.not_mem_nil, or_false] at hx
  rcases hx with rfl | rfl | rfl | rfl | rfl <;> rfl

set_option maxHeartbeats 800000 in
theorem twin_any (A : Option Addr) (c : Nat) (l : List Line) (w : World) (F : Nat → Prop) (hF : ∀ b, F b → b < w.heap.size) (hl : l.length ≤ 1048576) (hs : ∀ x ∈ l, x.spots.length ≤ 1048576) (h : RowOf 2 ELine w F A l) :
    Calls Try.prog 4 #[.slice A l.length c] w fun e w' => ∃ v, e = .returned v ∧ IsRow 2 ELine w' (fun b => w.heap.size ≤ b ∧ b < w'.heap.size) v l ∧ Below w.heap.size w w' := by
  go_enter Try.func4, Try.ntmps4
  go_wp2
  go_loopw [3, 4] (fun v i wr => ∃ k : Nat, k ≤ l.length ∧ i = .int .i64 k ∧ OwnRow 2 25 ELine (fun b => w.heap.size ≤ b) wr w.heap.size v (l.take k) ∧ Below w.heap.size w wr) (fun _ i _ => l.length - (intOf i).toNat)
  case atStart => exact ⟨0, Nat.zero_le _, rfl, OwnRow.nil _ _, Below.refl _ _⟩
  case round =>
    obtain ⟨k, hk, rfl, hown, hbl⟩ := hrel
    have hsz := hbl.size
    by_cases hlt : k < l.length
    · obtain ⟨b, off, S, c', rfl, hb, h0, h1, hc1, hc2, hr⟩ := lines_at h hlt
      have hb := hF _ hb
      have H0 := Lib.hid h0; have H1 := Lib.hid h1
      replace h0 := (hbl.cell (by exact hb)).trans h0
      replace h1 := (hbl.cell (by exact hb)).trans h1
      have hsp : l[k].spots.length ≤ 1048576 := hs _ (List.getElem_mem _)
      have hz := hown.owns
      obtain ⟨xs, hz⟩ := hz
      have hz := hz.lt
      have hm0 : wr.heap.size < ((wr.alloc (.cells #[] 28)).drew).heap.size := by simp
      have hmade := (World.ownsRow_made (base := wr.heap.size) (e := 28) (size := 5) wr #[] 0 (Nat.le_refl _) (Nat.zero_le _) rfl).drew
      have hcf : ∀ ad, S = some ad → ∀ j u, (l[k].spots.flatMap Spot.cells)[j]? = some u → ((wr.alloc (.cells #[] 28)).drew).cell? (ad.add j) = some u := by
        intro ad hA j u hu
        have h2 := (hr.keep ESpot.stays (w' := (wr.alloc (.cells #[] 28)).drew) (F' := F) (Keep.below (((hbl.alloc hsz _).drew)) hF) (fun b h => h)).cellsFrom Spot.cells_len ad hA
        exact h2 j u hu
      have hn := Lib.hid (show S = none → l[k].spots.length = 0 from fun e => by subst e; rw [hr.none_nil]; rfl)
      have HM := Lib.hid hmade; have HC := Lib.hid hcf; have HZ := Lib.hid hz; have HO := Lib.hid hown
      clear hmade hcf hz hown
      go_wp2_with fail
      go_region_held3 (fun w' => w'.cell? ⟨b, off + k * 2, none⟩ = some (.string l[k].text) ∧ w'.cell? ⟨b, off + k * 2 + 1, none⟩ = some (.slice S l[k].spots.length c'))
        (first
          | exact ⟨(hb2.cell (by exact hb)).trans H0.out, (hb2.cell (by exact hb)).trans H1.out⟩
          | exact ⟨(hb1.cell (by exact hb)).trans H0.out, (hb1.cell (by exact hb)).trans H1.out⟩
          | go_keep)
        ((first
          | (refine step_append_from _ (by rfl) (.tmp 17) (.tmp 22) _ (by rfl) wr.heap.size 28 Try.underlying23 spot_info rfl (by omega) (.slice (some ⟨wr.heap.size, 0, none⟩) 0 0) 0 [] (by rfl) HM.out S l[k].spots.length c' (l[k].spots.flatMap Spot.cells) (by rfl) (flat_length Spot.cells_len _) hn.out HC.out (spots_one _) (by unfold maxLen; omega) (by omega) (by simp) ?_; intro A1 c1 w1 own1 hg1 hat1; simp only [Nat.zero_add, List.nil_append] at own1; have hb1 : Below w.heap.size w w1 := ((hbl.alloc hsz _).drew).grown hg1 (by simp; omega) (fun k hk => by simp [Value.ownBlock] at hk; omega))
          | (refine step_push _ ELine.stays (by rfl) (.tmp 11) (.tmp 25) _ (by rfl) w.heap.size 25 Try.underlying22 line_info rfl (by omega) u3 (l.take k) (by rfl) ((HO.out.below ELine.stays ((((Below.refl _ _).alloc (Nat.le_refl _) _).drew).grown hg1 (by simp) (fun k hk => by simp [Value.ownBlock] at hk; omega))).alloc ELine.stays _) l[k] ⟨w1.heap.size, 0, none⟩ 1 [.string l[k].text, .slice A1 l[k].spots.length c1] (by rfl) (by rfl) (news_cells (cs := #[.string l[k].text, .slice A1 l[k].spots.length c1]) (Blk.new _ _ _)) (by simp [Value.oneCell']) ⟨_, rfl, (IsRow.of_own Spot.cells_len own1 (F := Oth (fun b => w.heap.size ≤ b) w1 u3) (own_at own1 (fun b h1 h2 => ⟨by omega, h2, fun e => by have := HZ.out _ e; omega⟩))).keep ESpot.stays (Keep.alloc _ _ (fun b hb => hb.2.1)) (fun b hb => ⟨hb.1, by have := hb.2.1; simp; omega, hb.2.2⟩)⟩ (by simp [maxLen]; omega) (by simp; omega) (by have := hg1.size; simp at this ⊢; omega) ?_; intro A2 c2 w2 own2 hg2 hat2; have hb2 : Below w.heap.size w w2 := (hb1.alloc hb1.size _).grown hg2 (by have := hb1.size; simp; omega) (fun k hk => (HZ.out k hk).1))))
      go_wp2
      go_roundw
      case rel => exact ⟨k + 1, by omega, by go_num, by rw [List.take_succ_eq_append_getElem hlt]; rw [List.length_take_of_le hk] at own2; exact own2, hb2⟩
      case measure => simp [intOf] <;> omega
    · rw [List.take_of_length_le (by omega)] at hown
      go_wp2
      go_ret
      exact ⟨u3, rfl, hown.isRow ELine.stays (fun b h1 h2 => ⟨h1, h2⟩) (fun b h1 h2 => ⟨h1, h2⟩), hbl⟩
end Go.Proofs.Ytfnainlijkeekaa
