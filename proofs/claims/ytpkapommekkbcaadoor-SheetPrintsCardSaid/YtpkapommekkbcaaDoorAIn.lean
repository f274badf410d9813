import Derived.Test.YtpkapommekkbcaaDoorATree
import Derived.Test.YtpkapommekkbcaaDoorAAlone
import Derived.Test.YtpkapommekkbcaaDoorAOwnI
set_option linter.unusedSimpArgs false
set_option linter.unusedVariables false
section
namespace Go.Proofs.YtpkapommekkbcaaDoor
open Go Go.RowKit

theorem Dep.next {m : AModel} (hi : ∀ i, IdAt m i) {e : Nat} {y : ANode} (hy : y ∈ m.nodes) (h : Dep m e y.id) : (y.parent = 0 ∧ e = 1) ∨ (∃ z ∈ m.nodes, z.id = y.parent ∧ 2 ≤ e ∧ Dep m (e - 1) y.parent) := by
  generalize hid : y.id = id at h
  cases h with
  | root x hx h0 =>
    have := node_inj hi hy hx hid
    subst this; exact .inl ⟨h0, rfl⟩
  | kid d x hx hp hd =>
    have := node_inj hi hy hx hid
    subst this
    obtain ⟨z, hz, e⟩ := hd.node
    exact .inr ⟨z, hz, e, by have := hd.pos; omega, hd⟩

set_option maxRecDepth 100000 in
set_option maxHeartbeats 1000000 in
theorem depth_any (A : Option Addr) (c : Nat) (m : AModel) (w : World) (F : Nat → Prop) (hF : ∀ b, F b → b < w.heap.size) (h : RowOf 7 ENode w F A m.nodes) (hT : Tree m) (hs : SrtB m.nodes) (hr : ∀ x ∈ m.nodes, InR x.parent) (hl : m.nodes.length ≤ 1048576) (x : ANode) (hx : x ∈ m.nodes) (d : Nat) (hd : Dep m d x.id) (hd6 : d ≤ 64) :
    Calls Tryd.prog 42 #[.agg #[.int .i64 m.next, .slice A m.nodes.length c], .int .i64 x.id] w fun e w' => e = .returned (.int .i64 d) ∧ Below w.heap.size w w' := by
  have HT := Lib.hid hT; have HS := Lib.hid hs; have HR := Lib.hid hr; have HX := Lib.hid hx; have HD := Lib.hid hd; have HH := Lib.hid h
  clear hT hs hr hx hd h
  go_enter Tryd.func42, Tryd.ntmps42
  go_wp2_with fail
  go_loopg [1, 5] d (fun g s1 s5 wx => ∃ (n : Nat) (cur : Int), s1 = .int .i64 cur ∧ s5 = .int .i64 n ∧ g = d - n ∧ n ≤ d ∧ Below w.heap.size w wx ∧ Blk wx w.heap.size 24 #[.int .i64 m.next, .slice A m.nodes.length c] ∧ ((cur = 0 ∧ n = d) ∨ (∃ y ∈ m.nodes, y.id = cur ∧ n < d ∧ Dep m (d - n) y.id)))
  case atStart => exact ⟨0, x.id, rfl, rfl, rfl, Nat.zero_le _, (Below.refl _ _).alloc (Nat.le_refl _) _, Blk.new _ _ _, .inr ⟨x, HX.out, rfl, HD.out.pos, HD.out⟩⟩
  case round =>
    obtain ⟨n, cur, rfl, rfl, rfl, hnd, hb, hm, hcase⟩ := hrel
    have HB := Lib.hid hb; have HM := Lib.hid hm
    have m0 := hm.cell 0; have m1 := hm.cell 1
    have hmlt := hm.lt
    have hsz := hb.size
    simp at m0 m1
    clear hm
    rcases hcase with ⟨rfl, rfl⟩ | ⟨y, hy, rfl, hlt, hD⟩
    · clear hb
      have g0 : ((0 : Int) != 0) = false := by decide
      go_wp2
      go_ret
      exact ⟨rfl, HB.out⟩
    · have hpos := id_pos HT.out.ids hy
      have hne : (y.id != 0) = true := bne_iff_ne.2 (by omega)
      have HY := Lib.hid hy; have HDY := Lib.hid hD
      obtain ⟨j, hj, hje⟩ := List.getElem_of_mem hy
      obtain ⟨b, off, Sp, cp, Sk, ck, Sr, cr, rfl, hbF, d0, d1, d2, _⟩ := node_at (RowOf.keep ENode.stays (Keep.below hb hF) (F' := F) (fun _ h => h) HH.out) hj
      rw [hje] at d2
      have j0 : (0 : Int) ≤ j := by omega
      have j1 : (j : Int) < m.nodes.length := by omega
      have hat : atI m.nodes y.id = j := by rw [← hje]; exact atI_some HS.out.1 hj rfl
      have hin : InR y.id := by have := HS.out.2 j hj; rw [hje] at this; unfold InR; omega
      have CP := Lib.hid (fun (d : Nat) (os : Array Obj) => Calls.regrown_of (w := wr) (d := d) (os := os) (by
        have hbg := HB.out.trans ((below_regrown wr d os).mono HB.out.size)
        have := at_any (some ⟨b, off, none⟩) c m.next y.id m.nodes (Sort.grow (redrawn wr d) os) F (fun b hb' => Nat.lt_of_lt_of_le (hF b hb') hbg.size) (HH.out.keep ENode.stays (Keep.below hbg hF) (fun _ h => h)) HS.out.1 hl
        rw [hat] at this; exact this))
      clear hb hje hat hin hpos hy hD d0 d1
      go_wp2_with fail
      have k0 := cell_regrown m0; have k1 := cell_regrown m1; have k2 := cell_regrown d2
      clear m0 m1 d2
      refine wp_region_quiet_below (by kernel_rfl) (by kernel_rfl) ?_
      repeat (first | go_big_quiet_step (exact CP.out _ _) | quiet_step (exact CP.out _ _))
      refine wpQuiet_nil ?_
      intro _ hw'
      obtain ⟨⟨dq, osq⟩, hw''⟩ := hw'
      subst hw''
      have HB2 := Lib.hid (HB.out.trans ((below_regrown wr dq osq).mono HB.out.size))
      have HM2 := Lib.hid (HM.out.below (below_regrown wr dq osq) hmlt)
      clear k0 k1 k2 CP
      have hn1 : (n : Int) + 1 ≤ 65 := by omega
      go_wp2
      go_roundg (d - (n + 1))
      case measure => omega
      case rel => exact ⟨n + 1, y.parent, rfl, by go_num, rfl, by omega, HB2.out, HM2.out, by
        rcases Dep.next HT.out.ids HY.out HDY.out with ⟨h1, h2⟩ | ⟨z, hz, h1, h2, h3⟩
        · exact .inl ⟨h1, by omega⟩
        · exact .inr ⟨z, hz, h1, by omega, by rw [h1, show d - (n + 1) = d - n - 1 by omega]; exact h3⟩⟩
end Go.Proofs.YtpkapommekkbcaaDoor
end
section
namespace Go.Proofs.YtpkapommekkbcaaDoor
open Go Go.RowKit

end Go.Proofs.YtpkapommekkbcaaDoor
end
