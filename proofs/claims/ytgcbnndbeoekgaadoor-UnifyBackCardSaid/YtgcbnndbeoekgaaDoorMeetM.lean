import Derived.Test.YtgcbnndbeoekgaaDoorWebM
import Derived.Test.YtgcbnndbeoekgaaDoorRegY
import Derived.Test.YtgcbnndbeoekgaaDoorNameWalks
import Derived.Deep.LoopGhost
import Derived.StillTailTactics
import Derived.Deep.DeepCutAuto
import Derived.Test.YtgcbnndbeoekgaaDoorLayM
import Derived.Laws.StructEq
set_option linter.unusedSimpArgs false
set_option linter.unusedVariables false
section
/- web.find: who stands for a node; only ways up change -/
namespace Go.Proofs.YtgcbnndbeoekgaaDoor
open Go Go.RowKit

/-- what find leaves -/
structure FindPost (w w' : World) (B p : Nat) (lv mv tv : Value) (l l' : List PN) (d r : Nat → Nat) : Prop where
  blk : Blk w' p 86 #[lv, mv, tv]
  nodes : NodesM w' B lv l'
  ups : Ups l l'
  uf : UF d l.length (upOf l') r
  grown : w.grownBy w' lv.ownBlock
theorem FindPost.drew {w w' : World} {B p : Nat} {lv mv tv : Value} {l l' : List PN} {d r : Nat → Nat} (h : FindPost w w' B p lv mv tv l l' d r) : FindPost w w'.drew B p lv mv tv l l' d r := ⟨h.blk, h.nodes.drewN 1, h.ups, h.uf, ⟨h.grown.os, h.grown.tape, h.grown.output, h.grown.size, h.grown.block⟩⟩
/-- find's step: the way up at j is halved -/
theorem FindPost.step {w wx : World} {B p n c g : Nat} {mv tv : Value} {l lx : List PN} {d r : Nat → Nat} (h : FindPost w wx B p (.slice (some ⟨g, 0, none⟩) n c) mv tv l lx d r) {j : Nat} (hj : j < lx.length) (hne : upOf lx j ≠ j) :
    FindPost w (wx.setCell ⟨g, j * 9 + 4, none⟩ (.int .i64 (upOf lx (upOf lx j)))) B p (.slice (some ⟨g, 0, none⟩) n c) mv tv l (lx.set j { lx[j] with up := upOf lx (upOf lx j) }) d r := by
  have hll := h.ups.1
  obtain ⟨q1, q2, q3, q4⟩ := h.uf.halve (up' := upOf (lx.set j { lx[j] with up := upOf lx (upOf lx j) })) (i := j) (by omega) hne (upOf_set hj _) (fun k hk => upOf_set_ne (Ne.symm hk) _)
  have hpg : g ≠ p := fun e => own_ne_blkX h.nodes.row h.blk (by decide) (by rw [← e]; rfl)
  have ha := h.nodes.args _ (List.getElem_mem hj)
  refine ⟨h.blk.far (Ne.symm hpg) _, h.nodes.set_ hj (k := 4) (by omega) rfl ha, h.ups.trans (Ups.set_ lx j hj _), q1, h.grown.andThen (row' := some g) ⟨rfl, rfl, rfl, by simp, fun k hk hne => Below.heap_setCell _ _ _ _ (fun e => hne (by rw [e]))⟩ (fun b e => .inr (by cases e; rfl))⟩

theorem retN {a b : Nat} (h : a = b) : Ending.returned (.int .i64 a) = .returned (.int .i64 b) := by rw [h]

set_option maxRecDepth 100000 in
set_option maxHeartbeats 8000000 in
theorem find_any (w : World) (B p : Nat) (lv mv tv : Value) (l : List PN) (d r : Nat → Nat) (hlen : l.length ≤ 9223372036854775807) (hb : Blk w p 86 #[lv, mv, tv]) (hn : NodesM w B lv l) (huf : UF d l.length (upOf l) r) (i : Nat) (hi : i < l.length) :
    Calls Tryd.prog 45 #[.pointer (some ⟨p, 0, none⟩), .int .i64 i] w fun e w' => e = .returned (.int .i64 (r i)) ∧ ∃ l', FindPost w w' B p lv mv tv l l' d r := by
  obtain ⟨g0, c0, rfl, hB0, hg0, hc1, hc2, -⟩ := hn.at_ hi
  have H0 : Hid (FindPost w w B p (.slice (some ⟨g0, 0, none⟩) l.length c0) mv tv l l d r) := Lib.hid ⟨hb, hn, Ups.refl l, huf, World.grownBy.refl _ _⟩
  obtain ⟨n, hnl⟩ : ∃ n, l.length = n := ⟨_, rfl⟩
  have HNL := Lib.hid hnl
  rw [hnl] at H0 hi
  unfold maxLen at hc2
  rw [hnl] at hc1
  clear hb hn huf hnl hlen
  go_enter Tryd.func45, Tryd.ntmps45
  go_upto_region 1 with fail
  go_loopg [1] (d i) (fun q s1 wx => ∃ (lx : List PN) (j : Nat), s1 = .int .i64 j ∧ q = d j ∧ j < n ∧ r j = r i ∧ FindPost w wx B p (.slice (some ⟨g0, 0, none⟩) n c0) mv tv l lx d r)
  case atStart => exact ⟨l, i, rfl, rfl, hi, rfl, H0.out⟩
  case round =>
    obtain ⟨lx, j, rfl, rfl, hj, hrj, hF⟩ := hrel
    have HF := Lib.hid hF
    have hll : lx.length = n := by rw [hF.ups.1, HNL.out]
    have hjx : j < lx.length := by omega
    have hufj := hF.uf
    rw [HNL.out] at hufj
    have huj := hufj.lt j hj
    have hux : upOf lx j < lx.length := by omega
    obtain ⟨g1, c1, e1, -, -, -, -, hat⟩ := hF.nodes.at_ hjx
    injection e1 with e1 e1n e1c
    injection e1 with e1
    injection e1 with e1
    subst e1
    obtain ⟨g2, c2, e2, -, -, -, -, hat2⟩ := hF.nodes.at_ hux
    injection e2 with e2 e2n e2c
    injection e2 with e2
    injection e2 with e2
    subst e2
    have z0 : wr.cell? ⟨p, 0, none⟩ = some (.slice (some ⟨g0, 0, none⟩) n c0) := hF.blk.cell 0
    have z1 : wr.cell? ⟨g0, j * 9 + 4, none⟩ = some (.int .i64 (upOf lx j)) := by rw [(hat 4 (by omega)).1, upOf_at hjx]; rfl
    have z1f := (hat 4 (by omega)).2
    have z2 : wr.cell? ⟨g0, upOf lx j * 9 + 4, none⟩ = some (.int .i64 (upOf lx (upOf lx j))) := by rw [(hat2 4 (by omega)).1, upOf_at hux]; rfl
    have j0 : (0 : Int) ≤ j := by omega
    have j1 : (j : Int) < n := by omega
    obtain ⟨u, hu⟩ : ∃ u, upOf lx j = u := ⟨_, rfl⟩
    have HU := Lib.hid hu
    rw [hu] at z1 z2 huj
    obtain ⟨uu, huu⟩ : ∃ x, upOf lx u = x := ⟨_, rfl⟩
    have HUU := Lib.hid huu
    rw [huu] at z2
    have u0 : (0 : Int) ≤ u := by omega
    have u1 : (u : Int) < n := by omega
    have HRJ := Lib.hid hrj
    clear hat hat2 hF hu huu hux e1c e2c e1n e2n hrj
    by_cases he : u = j
    · subst he
      have HROOT := Lib.hid (hufj.root u hj HU.out)
      clear hufj hll z2 huj
      go_wp2_with fail
      go_ret
      exact ⟨retN (by rw [← HRJ.out, HROOT.out]), lx, by rw [HNL.out]; exact HF.out⟩
    · have hne : ¬ ((u : Int) = j) := by omega
      have hstep : Hid (FindPost w (wr.setCell ⟨g0, j * 9 + 4, none⟩ (.int .i64 uu)) B p (.slice (some ⟨g0, 0, none⟩) n c0) mv tv l (lx.set j { lx[j] with up := uu }) d r) := Lib.hid (by
        have := HF.out.step hjx (by rw [HU.out]; exact he)
        rw [HU.out, HUU.out] at this
        exact this)
      obtain ⟨-, y2, y3, y4⟩ := hufj.halve (up' := upOf (lx.set j { lx[j] with up := uu })) hj (by rw [HU.out]; exact he) (by rw [upOf_set hjx, HU.out, HUU.out]) (fun k hk => upOf_set_ne (Ne.symm hk) _)
      rw [HU.out, HUU.out] at y2 y3 y4
      have HLL := Lib.hid hll
      clear hufj hll
      go_upto_region 2 with fail
      refine wp_region_Y (S := (fun w' : World => w'.cell? ⟨p, 0, none⟩ = some (.slice (some ⟨g0, 0, none⟩) n c0) ∧ w'.cell? ⟨g0, j * 9 + 4, none⟩ = some (.int .i64 u) ∧ w'.cell? ⟨g0, u * 9 + 4, none⟩ = some (.int .i64 uu))) 22 (by kernel_rfl) (⟨z0, z1, z2⟩) (fun hHeld => ?_)
      refine wpAnyY_take (i := 0) (v := ?_) rfl (by kernel_rfl) (by kernel_rfl) (by kernel_rfl) (by kernel_rfl) (fun _ _ _ h => h) (Or.inl ⟨by rfl, ?_⟩) (by assumption) ?_
      rotate_left 1
      · (intro w' hSw; obtain ⟨s0, s1, s2⟩ := hSw; go_simp); try with_reducible rfl
      try simp only [Act.put, List.setIfInBounds_toArray, List.set_cons_zero, List.set_cons_succ, Nat.zero_add]
      refine wpAnyY_take (i := 1) (v := ?_) rfl (by kernel_rfl) (by kernel_rfl) (by kernel_rfl) (by kernel_rfl) (fun _ _ _ h => h) (Or.inl ⟨by rfl, ?_⟩) (by assumption) ?_
      rotate_left 1
      · (intro w' hSw; obtain ⟨s0, s1, s2⟩ := hSw; go_simp); try with_reducible rfl
      try simp only [Act.put, List.setIfInBounds_toArray, List.set_cons_zero, List.set_cons_succ, Nat.zero_add]
      refine wpAnyY_take (i := 2) (v := ?_) rfl (by kernel_rfl) (by kernel_rfl) (by kernel_rfl) (by kernel_rfl) (fun _ _ _ h => h) (Or.inl ⟨by rfl, ?_⟩) (by assumption) ?_
      rotate_left 1
      · (intro w' hSw; obtain ⟨s0, s1, s2⟩ := hSw; go_simp); try with_reducible rfl
      try simp only [Act.put, List.setIfInBounds_toArray, List.set_cons_zero, List.set_cons_succ, Nat.zero_add]
      refine wpAnyY_take (i := 3) (v := ?_) rfl (by kernel_rfl) (by kernel_rfl) (by kernel_rfl) (by kernel_rfl) (fun _ _ _ h => h) (Or.inl ⟨by rfl, ?_⟩) (by assumption) ?_
      rotate_left 1
      · (intro w' hSw; obtain ⟨s0, s1, s2⟩ := hSw; go_simp); try with_reducible rfl
      try simp only [Act.put, List.setIfInBounds_toArray, List.set_cons_zero, List.set_cons_succ, Nat.zero_add]
      refine wpAnyY_take (i := 4) (v := ?_) rfl (by kernel_rfl) (by kernel_rfl) (by kernel_rfl) (by kernel_rfl) (fun _ _ _ h => h) (Or.inl ⟨by rfl, ?_⟩) (by assumption) ?_
      rotate_left 1
      · (intro w' hSw; obtain ⟨s0, s1, s2⟩ := hSw; go_simp); try with_reducible rfl
      try simp only [Act.put, List.setIfInBounds_toArray, List.set_cons_zero, List.set_cons_succ, Nat.zero_add]
      refine wpAnyY_take (i := 5) (v := ?_) rfl (by kernel_rfl) (by kernel_rfl) (by kernel_rfl) (by kernel_rfl) (fun _ _ _ h => h) (Or.inl ⟨by rfl, ?_⟩) (by assumption) ?_
      rotate_left 1
      · (intro w' hSw; obtain ⟨s0, s1, s2⟩ := hSw; go_simp); try with_reducible rfl
      try simp only [Act.put, List.setIfInBounds_toArray, List.set_cons_zero, List.set_cons_succ, Nat.zero_add]
      refine wpAnyY_take (i := 6) (v := ?_) rfl (by kernel_rfl) (by kernel_rfl) (by kernel_rfl) (by kernel_rfl) (fun _ _ _ h => h) (Or.inl ⟨by rfl, ?_⟩) (by assumption) ?_
      rotate_left 1
      · (intro w' hSw; obtain ⟨s0, s1, s2⟩ := hSw; go_simp); try with_reducible rfl
      try simp only [Act.put, List.setIfInBounds_toArray, List.set_cons_zero, List.set_cons_succ, Nat.zero_add]
      refine wpAnyY_take (i := 7) (v := ?_) rfl (by kernel_rfl) (by kernel_rfl) (by kernel_rfl) (by kernel_rfl) (fun _ _ _ h => h) (Or.inl ⟨by rfl, ?_⟩) (by assumption) ?_
      rotate_left 1
      · (intro w' hSw; obtain ⟨s0, s1, s2⟩ := hSw; go_simp); try with_reducible rfl
      try simp only [Act.put, List.setIfInBounds_toArray, List.set_cons_zero, List.set_cons_succ, Nat.zero_add]
      refine wpAnyY_take (i := 8) (v := ?_) rfl (by kernel_rfl) (by kernel_rfl) (by kernel_rfl) (by kernel_rfl) (fun _ _ _ h => h) (Or.inl ⟨by rfl, ?_⟩) (by assumption) ?_
      rotate_left 1
      · (intro w' hSw; obtain ⟨s0, s1, s2⟩ := hSw; go_simp); try with_reducible rfl
      try simp only [Act.put, List.setIfInBounds_toArray, List.set_cons_zero, List.set_cons_succ, Nat.zero_add]
      refine wpAnyY_take (i := 9) (v := ?_) rfl (by kernel_rfl) (by kernel_rfl) (by kernel_rfl) (by kernel_rfl) (fun _ _ _ h => h) (Or.inl ⟨by rfl, ?_⟩) (by assumption) ?_
      rotate_left 1
      · (intro w' hSw; obtain ⟨s0, s1, s2⟩ := hSw; go_simp); try with_reducible rfl
      try simp only [Act.put, List.setIfInBounds_toArray, List.set_cons_zero, List.set_cons_succ, Nat.zero_add]
      refine wpAnyY_take (i := 10) (v := ?_) rfl (by kernel_rfl) (by kernel_rfl) (by kernel_rfl) (by kernel_rfl) (fun _ _ _ h => h) (Or.inl ⟨by rfl, ?_⟩) (by assumption) ?_
      rotate_left 1
      · (intro w' hSw; obtain ⟨s0, s1, s2⟩ := hSw; go_simp); try with_reducible rfl
      try simp only [Act.put, List.setIfInBounds_toArray, List.set_cons_zero, List.set_cons_succ, Nat.zero_add]
      refine wpAnyY_take (i := 11) (v := ?_) rfl (by kernel_rfl) (by kernel_rfl) (by kernel_rfl) (by kernel_rfl) (fun _ _ _ h => h) (Or.inl ⟨by rfl, ?_⟩) (by assumption) ?_
      rotate_left 1
      · (intro w' hSw; obtain ⟨s0, s1, s2⟩ := hSw; go_simp); try with_reducible rfl
      try simp only [Act.put, List.setIfInBounds_toArray, List.set_cons_zero, List.set_cons_succ, Nat.zero_add]
      refine wpAnyY_take (i := 12) (v := ?_) rfl (by kernel_rfl) (by kernel_rfl) (by kernel_rfl) (by kernel_rfl) (fun _ _ _ h => h) (Or.inl ⟨by rfl, ?_⟩) (by assumption) ?_
      rotate_left 1
      · (intro w' hSw; obtain ⟨s0, s1, s2⟩ := hSw; go_simp); try with_reducible rfl
      try simp only [Act.put, List.setIfInBounds_toArray, List.set_cons_zero, List.set_cons_succ, Nat.zero_add]
      refine wpAnyY_take (i := 13) (v := ?_) rfl (by kernel_rfl) (by kernel_rfl) (by kernel_rfl) (by kernel_rfl) (fun _ _ _ h => h) (Or.inl ⟨by rfl, ?_⟩) (by assumption) ?_
      rotate_left 1
      · (intro w' hSw; obtain ⟨s0, s1, s2⟩ := hSw; go_simp); try with_reducible rfl
      try simp only [Act.put, List.setIfInBounds_toArray, List.set_cons_zero, List.set_cons_succ, Nat.zero_add]
      refine wpAnyY_take (i := 14) (v := ?_) rfl (by kernel_rfl) (by kernel_rfl) (by kernel_rfl) (by kernel_rfl) (fun _ _ _ h => h) (Or.inl ⟨by rfl, ?_⟩) (by assumption) ?_
      rotate_left 1
      · (intro w' hSw; obtain ⟨s0, s1, s2⟩ := hSw; go_simp); try with_reducible rfl
      try simp only [Act.put, List.setIfInBounds_toArray, List.set_cons_zero, List.set_cons_succ, Nat.zero_add]
      refine wpAnyY_take (i := 15) (v := ?_) rfl (by kernel_rfl) (by kernel_rfl) (by kernel_rfl) (by kernel_rfl) (fun _ _ _ h => h) (Or.inl ⟨by rfl, ?_⟩) (by assumption) ?_
      rotate_left 1
      · (intro w' hSw; obtain ⟨s0, s1, s2⟩ := hSw; go_simp); try with_reducible rfl
      try simp only [Act.put, List.setIfInBounds_toArray, List.set_cons_zero, List.set_cons_succ, Nat.zero_add]
      refine wpAnyY_take (i := 16) (v := ?_) rfl (by kernel_rfl) (by kernel_rfl) (by kernel_rfl) (by kernel_rfl) (fun _ _ _ h => h) (Or.inl ⟨by rfl, ?_⟩) (by assumption) ?_
      rotate_left 1
      · (intro w' hSw; obtain ⟨s0, s1, s2⟩ := hSw; go_simp); try with_reducible rfl
      try simp only [Act.put, List.setIfInBounds_toArray, List.set_cons_zero, List.set_cons_succ, Nat.zero_add]
      refine wpAnyY_take (i := 17) (v := ?_) rfl (by kernel_rfl) (by kernel_rfl) (by kernel_rfl) (by kernel_rfl) (fun _ _ _ h => h) (Or.inl ⟨by rfl, ?_⟩) (by assumption) ?_
      rotate_left 1
      · (intro w' hSw; obtain ⟨s0, s1, s2⟩ := hSw; go_simp); try with_reducible rfl
      try simp only [Act.put, List.setIfInBounds_toArray, List.set_cons_zero, List.set_cons_succ, Nat.zero_add]
      refine wpAnyY_take (i := 18) (v := ?_) rfl (by kernel_rfl) (by kernel_rfl) (by kernel_rfl) (by kernel_rfl) (fun _ _ _ h => h) (Or.inl ⟨by rfl, ?_⟩) (by assumption) ?_
      rotate_left 1
      · (intro w' hSw; obtain ⟨s0, s1, s2⟩ := hSw; go_simp); try with_reducible rfl
      try simp only [Act.put, List.setIfInBounds_toArray, List.set_cons_zero, List.set_cons_succ, Nat.zero_add]
      refine wpAnyY_take (i := 19) (v := ?_) rfl (by kernel_rfl) (by kernel_rfl) (by kernel_rfl) (by kernel_rfl) (fun _ _ _ h => h) (Or.inl ⟨by rfl, ?_⟩) (by assumption) ?_
      rotate_left 1
      · (intro w' hSw; obtain ⟨s0, s1, s2⟩ := hSw; go_simp); try with_reducible rfl
      try simp only [Act.put, List.setIfInBounds_toArray, List.set_cons_zero, List.set_cons_succ, Nat.zero_add]
      refine wpAnyY_take0 (i := 20) (v := ?_) rfl (by kernel_rfl) (by kernel_rfl) (by kernel_rfl) (by kernel_rfl) (fun _ _ _ h => h) (Or.inl ⟨by rfl, ?_⟩) ?_
      rotate_left 1
      · (intro w' _; go_simp); try with_reducible rfl
      try simp only [Act.put, List.setIfInBounds_toArray, List.set_cons_zero, List.set_cons_succ, Nat.zero_add]
      refine wpAnyY_take (i := 21) (v := ?_) rfl (by kernel_rfl) (by kernel_rfl) (by kernel_rfl) (by kernel_rfl) (fun _ _ _ h => h) (Or.inl ⟨by rfl, ?_⟩) (by assumption) ?_
      rotate_left 1
      · (intro w' hSw; obtain ⟨s0, s1, s2⟩ := hSw; go_simp); try with_reducible rfl
      try simp only [Act.put, List.setIfInBounds_toArray, List.set_cons_zero, List.set_cons_succ, Nat.zero_add]
      refine wpAnyY_one0 (i := 22) rfl (by kernel_rfl) (by kernel_rfl) (fun K hK => ?_)
      go_simp
      refine hK.out _ _ ?_
      clear hK K
      try simp only [Act.put, List.setIfInBounds_toArray, List.set_cons_zero, List.set_cons_succ, Nat.zero_add]
      refine wpAnyY_done (by kernel_rfl) ?_ _
      have HS0 : Hid ((wr.setCell ⟨g0, j * 9 + 4, none⟩ (.int .i64 uu)).cell? ⟨p, 0, none⟩ = some (.slice (some ⟨g0, 0, none⟩) n c0)) := Lib.hid (hstep.out.blk.cell 0)
      obtain ⟨w2, hw2⟩ : ∃ x, wr.setCell ⟨g0, j * 9 + 4, none⟩ (.int .i64 uu) = x := ⟨_, rfl⟩
      have z5 : w2.cell? ⟨g0, j * 9 + 4, none⟩ = some (.int .i64 uu) := by
        rw [← hw2]
        obtain ⟨g3, c3, e3, -, -, -, -, hat3⟩ := hstep.out.nodes.at_ (i := j) (by simpa using hjx)
        injection e3 with e3 _ _
        injection e3 with e3
        injection e3 with e3
        subst e3
        rw [(hat3 4 (by omega)).1]
        simp [PN.cells]
      have hstep : Hid (FindPost w w2 B p (.slice (some ⟨g0, 0, none⟩) n c0) mv tv l (lx.set j { lx[j] with up := uu }) d r) := Lib.hid (by rw [← hw2]; exact hstep.out)
      have z6 : w2.cell? ⟨p, 0, none⟩ = some (.slice (some ⟨g0, 0, none⟩) n c0) := hstep.out.blk.cell 0
      (try rw [hw2])
      clear hw2 HS0 z0 z1 z2 z1f hHeld
      go_wp2_with fail
      go_roundg (d uu)
      case measure => exact y2
      case rel => exact ⟨_, _, rfl, rfl, y3, by rw [y4]; exact HRJ.out, hstep.out.drew⟩
end Go.Proofs.YtgcbnndbeoekgaaDoor
end
section
/- two nodes of the program's web meet: what is in memory on the way -/
namespace Go.Proofs.YtgcbnndbeoekgaaDoor
open Go Go.RowKit Go.Maps

open Classical in
noncomputable def headB (a : ByteArray) (k : Nat) (b : ByteArray) (m : Nat) : Bool := decide (a = b ∧ k = m)
open Classical in
theorem headB_yes {a b : ByteArray} {k m : Nat} (h : a = b ∧ k = m) : headB a k b m = true := decide_eq_true h
open Classical in
theorem headB_no {a b : ByteArray} {k m : Nat} (h : ¬ (a = b ∧ k = m)) : headB a k b m = false := decide_eq_false h
theorem bytes_toList {a b : ByteArray} : a.toList = b.toList ↔ a = b := by
  rw [ByteArray.toList_eq, ByteArray.toList_eq]
  constructor
  · intro h
    obtain ⟨⟨x⟩⟩ := a
    obtain ⟨⟨y⟩⟩ := b
    simp at h; subst h; rfl
  · intro h; rw [h]
theorem guard_head (a b : Operand) (xs ys : Array Value) (w : World) : Sem.run Tryd.prog (eqGuard .neq 101 a b (.agg xs) (.agg ys)) w = .ok () w := run_eqGuard_agg w .neq 101 a b xs ys (by kernel_rfl)
theorem neq_head (a b : ByteArray) (k m : Nat) (w : World) : Sem.run Tryd.prog (Go.binOp .neq 101 (.agg #[.string a, .int .i64 k]) (.agg #[.string b, .int .i64 m])) w = .ok (.bool (!(headB a k b m))) w := by
  rw [run_neq_struct, run_equalIn_agg _ 9999 101 _ _ (by kernel_rfl) (by kernel_rfl)]
  simp only [Program.fieldsOf, Tryd.underlying101, Op.eqFields]
  simp only [go_sem]
  by_cases h1 : a = b
  · by_cases h2 : k = m
    · rw [headB_yes ⟨h1, h2⟩]; simp [h1, h2, go_sem]
    · rw [headB_no (fun e => h2 e.2)]; simp [h1, go_sem, bytes_toList]; omega
  · rw [headB_no (fun e => h1 e.1)]; simp [h1, go_sem, bytes_toList]
theorem own_shapeP {w : World} {base : Nat} {e : TypeId} {size n : Nat} {v : Value} {xs : List Value} (h : w.ownsRow base e size v n xs) : ∃ A c, v = .slice A n c := own_shape h
/-- the first elements of a row -/
theorem own_prefix {w : World} {base : Nat} {e : TypeId} {size g n cap m : Nat} {xs : List Value} (h : w.ownsRow base e size (.slice (some ⟨g, 0, none⟩) n cap) n xs) (hm : m ≤ n) : w.ownsRow base e size (.slice (some ⟨g, 0, none⟩) m cap) m (xs.take (m * size)) := by
  have hl := h.1
  have hms : m * size ≤ n * size := Nat.mul_le_mul_right _ hm
  rcases h.2 with ⟨e, _⟩ | ⟨g', cap', cur, e, h1, h2, h3, h4, h5, h6⟩
  · cases e
  · injection e with e1 e2 e3
    injection e1 with e1
    injection e1 with e1
    subst e1; subst e3
    exact ⟨by rw [List.length_take, hl]; omega, .inr ⟨g, cap, cur, rfl, h1, h2, by omega, h4, h5, by rw [← h6, List.take_take, Nat.min_eq_left hms]⟩⟩
theorem pairs_take : ∀ (td : List (Nat × Nat)) (m : Nat), (td.flatMap pairCells).take (m * 2) = (td.take m).flatMap pairCells
  | [], m => by simp
  | p :: r, 0 => by simp
  | p :: r, m + 1 => by
    rw [List.take_succ_cons, List.flatMap_cons, List.flatMap_cons, show (m + 1) * 2 = (pairCells p).length + m * 2 by rw [pairCells_len]; omega, List.take_length_add_append, pairs_take r m]
theorem NodesM.rd {w : World} {B g n c : Nat} {l : List PN} (h : NodesM w B (.slice (some ⟨g, 0, none⟩) n c) l) {i : Nat} (hi : i < l.length) {k : Nat} (hk : k < 9) : w.cell? ⟨g, i * 9 + k, none⟩ = l[i].cells[k]? ∧ w.frozen? ⟨g, i * 9 + k, none⟩ = false := by
  obtain ⟨g', c', e, _, _, _, _, hat⟩ := h.at_ hi
  injection e with e _ _
  injection e with e
  injection e with e
  subst e
  exact hat k hk
/-- who stands for a node is found -/
def FoundAt (w : World) (B p mb : Nat) (lv tv : Value) (l : List PN) (hm td : List (Nat × Nat)) (W : WebT) (r : Nat → Nat) (tm : Nat → Option Nat) (lo : Nat → Nat) (i : Nat) (e : Ending) (w' : World) : Prop :=
  e = .returned (.int .i64 (r i)) ∧ ∃ l', w.grownBy w' lv.ownBlock ∧ WebAt w' B p lv mb tv l' hm td ∧ Ups l l' ∧ PW W r tm lo l' hm
theorem find_web {w : World} {B p mb : Nat} {lv tv : Value} {l : List PN} {hm td : List (Nat × Nat)} {W : WebT} {r : Nat → Nat} {tm : Nat → Option Nat} {lo : Nat → Nat} (hw : WebAt w B p lv mb tv l hm td) (hp : PW W r tm lo l hm) (hlen : l.length ≤ 9223372036854775807) (i : Nat) (hi : i < l.length) :
    Calls Tryd.prog 45 #[.pointer (some ⟨p, 0, none⟩), .int .i64 i] w (FoundAt w B p mb lv tv l hm td W r tm lo i) := by
  obtain ⟨d, hd⟩ := hp.uf
  refine (find_any w B p lv _ tv l d r hlen hw.blk hw.nodes hd i hi).mono ?_
  rintro e w' ⟨h1, l', hF⟩
  exact ⟨h1, l', hF.grown, hw.nodesOf hF.grown hF.nodes, hF.ups, hp.same hF.ups.same0 ⟨d, hF.uf⟩⟩

structure MeetM (w : World) (B p mb : Nat) (lv tv0 : Value) (hm : List (Nat × Nat)) (wx : World) (tv : Value) (l : List PN) (td : List (Nat × Nat)) : Prop where
  kb : Kb (Wb p mb lv tv0) w wx
  web : WebAt wx B p lv mb tv l hm td
  tvb : ∀ b, tv.ownBlock = some b → tv0.ownBlock = some b ∨ w.heap.size ≤ b
section
variable {w wx w' : World} {B p mb : Nat} {lv tv0 tv tv' : Value} {hm td td' : List (Nat × Nat)} {l l' : List PN}
theorem MeetM.start (h : WebAt w B p lv mb tv l hm td) : MeetM w B p mb lv tv hm w tv l td := ⟨Kb.refl _ _, h, fun _ e => .inl e⟩
theorem MeetM.alloc (h : MeetM w B p mb lv tv0 hm wx tv l td) (o : Obj) : MeetM w B p mb lv tv0 hm (wx.alloc o) tv l td := ⟨h.kb.alloc o, h.web.alloc o, h.tvb⟩
theorem MeetM.drewN (h : MeetM w B p mb lv tv0 hm wx tv l td) (n : Nat) : MeetM w B p mb lv tv0 hm (wx.drewN n) tv l td := ⟨h.kb.drewN n, h.web.drewN n, h.tvb⟩
theorem MeetM.drew (h : MeetM w B p mb lv tv0 hm wx tv l td) : MeetM w B p mb lv tv0 hm wx.drew tv l td := h.drewN 1
theorem MeetM.found (h : MeetM w B p mb lv tv0 hm wx tv l td) (hg : wx.grownBy w' lv.ownBlock) (hw : WebAt w' B p lv mb tv l' hm td) : MeetM w B p mb lv tv0 hm w' tv l' td :=
  ⟨h.kb.grown hg (fun n e => .inl (.inr (.inr (.inl e)))), hw, h.tvb⟩
/-- the list of what is still to do is another, its row stored anew -/
theorem MeetM.todo (h : MeetM w B p mb lv tv0 hm wx tv l td) {row : Option Nat} (hg : wx.grownBy w' row) (hrow : ∀ b, row = some b → tv.ownBlock = some b) (ho : w'.ownsRow B 98 2 tv' td'.length (td'.flatMap pairCells)) (hv : ∀ b, tv'.ownBlock = some b → tv.ownBlock = some b ∨ wx.heap.size ≤ b) :
    MeetM w B p mb lv tv0 hm (w'.setCell ⟨p, 2, none⟩ tv') tv' l td' := by
  obtain ⟨D, hD, hV⟩ := h.web.holes
  have ht := h.web.todo
  have hbp : Blk w' p 86 #[lv, .map (some mb), tv] := h.web.blk.grown hg (fun e => own_ne_blkX ht h.web.blk (by decide) (hrow p e.symm))
  have hset := grown_set w' p 2 tv'
  have keepI : ∀ {base : Nat} {a : Value} {n : Nat} {xs : List Value} {e : TypeId} {size : Nat}, wx.ownsRow base e size a n xs → e ≠ 98 → e ≠ 86 → (w'.setCell ⟨p, 2, none⟩ tv').ownsRow base e size a n xs := by
    intro base a n xs e size ha he hew
    have h1 : w'.ownsRow base e size a n xs := ha.kept hg (by
      cases hb : a.ownBlock with
      | none => exact .inl rfl
      | some b => exact .inr fun e2 => own_type_ne ha ht he b hb (hrow b e2.symm))
    refine h1.kept hset ?_
    cases hb : a.ownBlock with
    | none => exact .inl rfl
    | some b => exact .inr fun e2 => by injection e2 with e2; exact own_ne_blkX h1 hbp (Ne.symm hew) (by rw [hb, e2])
  have hpm : mb ≠ p := map_ne_blk hD h.web.blk
  have hD1 := hD.kept hg (fun e => map_ne_row hD ht (hrow mb e.symm))
  refine ⟨(h.kb.grown hg (fun n e => (h.tvb n (hrow n e)).imp (fun e => .inr (.inr (.inr e))) id)).setCell (.inl (.inl rfl)) _, ⟨by simpa using hbp.set_ 2 tv', ⟨keepI h.web.nodes.row (by decide) (by decide), fun y hy => keepI (h.web.nodes.args y hy) (by decide) (by decide)⟩, ⟨D, hD1.kept hset (fun e => hpm (by injection e)), hV⟩, ?_, h.web.low⟩, fun b hb => ?_⟩
  · refine ho.kept hset ?_
    cases hb : tv'.ownBlock with
    | none => exact .inl rfl
    | some b => exact .inr fun e2 => by injection e2 with e2; exact own_ne_blkX ho hbp (by decide) (by rw [hb, e2])
  · rcases hv b hb with e | e
    · exact h.tvb b e
    · have := h.kb.size; exact .inr (by omega)
/-- one of a node's cells is written -/
theorem MeetM.node {g n c : Nat} (h : MeetM w B p mb (.slice (some ⟨g, 0, none⟩) n c) tv0 hm wx tv l td) {i : Nat} (hi : i < l.length) {k : Nat} (hk : k < 9) {u : Value} {x : PN} (hx : l[i].cells.set k u = x.cells) (hav : x.av = l[i].av ∧ x.args = l[i].args) :
    MeetM w B p mb (.slice (some ⟨g, 0, none⟩) n c) tv0 hm (wx.setCell ⟨g, i * 9 + k, none⟩ u) tv (l.set i x) td :=
  have hg := grown_set wx g (i * 9 + k) u
  h.found (l' := l.set i x) hg (h.web.nodesOf hg (h.web.nodes.set_ hi hk hx (by rw [hav.1, hav.2]; exact h.web.nodes.args _ (List.getElem_mem hi))))
end
/-! ### What has met stays so -/
section
variable {r : Nat → Nat} {td more : List (Nat × Nat)} {a b x y : Nat}
theorem rel_skip (he : r a = r b) {i j : Nat} (h : Rel r (td ++ [(a, b)]) i j) : Rel r td i j := h.mono (fun _ _ => .cls) fun i j hij => by
  rcases List.mem_append.1 hij with h3 | h3
  · exact .pair h3
  · simp only [List.mem_cons, List.not_mem_nil, or_false, Prod.mk.injEq] at h3
    rw [h3.1, h3.2]; exact .cls he
theorem rel_unite (hx : r a = x) (hy : r b = y) {i j : Nat} (h : Rel r (td ++ [(a, b)]) i j) : Rel (uniR r x y) (td ++ more) i j := h.mono (fun i j e => .cls (by unfold uniR; rw [e])) fun i j hij => by
  rcases List.mem_append.1 hij with h3 | h3
  · exact .pair (List.mem_append_left _ h3)
  · simp only [List.mem_cons, List.not_mem_nil, or_false, Prod.mk.injEq] at h3
    refine .cls ?_
    unfold uniR
    rw [h3.1, h3.2, if_pos hy]
    by_cases e : r a = y
    · rw [if_pos e]
    · rw [if_neg e, hx]
end
/-- a node whose arguments are few, and which has no mark -/
def NOk (x : PN) : Prop := x.args.length ≤ 256 ∧ x.seen = 0
theorem nok_ups {l l' : List PN} (h : Ups l l') (ha : ∀ x ∈ l, NOk x) : ∀ x ∈ l', NOk x := fun x hx => by
  obtain ⟨i, hi, rfl⟩ := List.getElem_of_mem hx
  have hi' : i < l.length := by rw [← h.1]; exact hi
  have h1 := ha _ (List.getElem_mem hi')
  rw [h.2 i hi' hi]
  exact h1
/-- what comes when two meet -/
def SomeMeet (w : World) (B p mb : Nat) (lv tv0 : Value) (hm : List (Nat × Nat)) (W : WebT) (E : List (Fo × Fo)) (r0 : Nat → Nat) (n a b : Nat) (e : Ending) (w' : World) : Prop :=
  (e = .returned (.bool true) ∧ ∃ tv l r tm lo, MeetM w B p mb lv tv0 hm w' tv l [] ∧ PW W r tm lo l hm ∧ USt W r tm lo [] E ∧ (∀ i j, r0 i = r0 j → r i = r j) ∧ r a = r b ∧ ∀ x ∈ l, NOk x) ∨
  (e = .returned (.bool false) ∧ Comes E .clash ∧ Kb (Wb p mb lv tv0) w w')
end Go.Proofs.YtgcbnndbeoekgaaDoor
end
