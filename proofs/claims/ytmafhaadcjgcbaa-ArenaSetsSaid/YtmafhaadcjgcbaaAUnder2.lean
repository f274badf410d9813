import Derived.Test.YtmafhaadcjgcbaaAUnder
import Derived.Laws.EntriesVeiled
namespace Go.Proofs.Ytmafhaadcjgcbaa
open Go Go.RowKit

set_option maxRecDepth 100000 in
set_option maxHeartbeats 1000000 in
theorem under_any (A : Option Addr) (c : Nat) (m : AModel) (w : World) (F : Nat → Prop) (hF : ∀ b, F b → b < w.heap.size) (h : RowOf 7 ENode w F A m.nodes) (hT : Tree m) (hs : SrtB m.nodes) (hr : ∀ x ∈ m.nodes, ∀ k ∈ x.kids, InR k) (hl4 : m.nodes.length ≤ 4096) (x : ANode) (hx : x ∈ m.nodes) :
    Calls Try.prog 75 #[.agg #[.int .i64 m.next, .slice A m.nodes.length c], .int .i64 x.id] w fun e w' => ∃ v, e = .returned v ∧ OwnI w' w.heap.size v (belowL m x.id) ∧ Below w.heap.size w w' := by
  have HH := Lib.hid h
  go_enter Try.func75, Try.ntmps75
  go_wp2_with fail
  refine (under1_any A c m w F (w.heap.size + 3) w.heap.size (w.heap.size + 1) (w.heap.size + 1 + 1) hT hs hr hl4 (fun b hb => by have := hF b hb; omega) (by omega) (by omega) (by omega) x hx
    (((w.alloc (.cells #[.int .i64 m.next, .slice A m.nodes.length c] 24)).alloc (.cells #[.slice none 0 0] 35)).alloc (.cells #[downFn w.heap.size (w.heap.size + 1) (w.heap.size + 1 + 1)] 124))
    (.slice none 0 0) [] (by have := hT.below_len hx; simp; omega) (by simp) (RowOf.keep ENode.stays (Keep.below ((((Below.refl w.heap.size w).alloc (Nat.le_refl _) _).alloc (by simp) _).alloc (by simp; omega) _) hF) (F' := F) (fun _ h => h) HH.out) (((Blk.new _ _ _).alloc _).alloc _) (Blk.new' (by simp)) ((Blk.new' (by simp)).alloc _) (OwnI.nil _ _)).mono ?_
  rintro _ w2 ⟨rfl, v2, hk2, ho2, hown2⟩
  have HB2 := Lib.hid (((((Below.refl w.heap.size w).alloc (Nat.le_refl _) (.cells #[.int .i64 m.next, .slice A m.nodes.length c] 24)).alloc (by simp) (.cells #[.slice none 0 0] 35)).alloc (by simp; omega) (.cells #[downFn w.heap.size (w.heap.size + 1) (w.heap.size + 1 + 1)] 124)).trans (hk2.below (b := w.heap.size) (by omega) (by omega)))
  obtain ⟨A2, c2, rfl⟩ := hown2.shape
  have o0 := ho2.cell 0
  have HOWN : Hid (OwnI w2 w.heap.size (.slice A2 (belowL m x.id).length c2) (belowL m x.id)) := Lib.hid (by
    simp only [List.nil_append] at hown2
    refine ⟨hown2.1, ?_⟩
    rcases hown2.2 with h0 | ⟨g, cap, cur, h1, h2, h3⟩
    · exact .inl h0
    · exact .inr ⟨g, cap, cur, h1, by omega, h3⟩)
  simp at o0
  clear hk2 ho2 hown2
  go_wp2
  go_ret
  exact ⟨_, rfl, HOWN.out, HB2.out⟩
end Go.Proofs.Ytmafhaadcjgcbaa
