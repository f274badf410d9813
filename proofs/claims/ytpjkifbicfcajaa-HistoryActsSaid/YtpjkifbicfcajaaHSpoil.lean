/- a model that is written over -/
import Derived.Test.YtpjkifbicfcajaaHMem
set_option linter.unusedSimpArgs false
set_option linter.unusedVariables false
namespace Go.Proofs.Ytpjkifbicfcajaa
open Go Go.RowKit

/-- on the way: nodes from i on are as they were -/
structure Spo (O : Nat → Prop) (w : World) (g p : Nat) (bx : Array Value) (ns : List LN) (i : Nat) (wx : World) : Prop where
  keep : KeepO (fun b => O b ∨ b = g) w wx
  box : Blk wx p 27 bx
  pw : w.heap.size ≤ p
  nodes : NodesF wx g ns i
  wr : WrL O wx ns
  og : ¬ O g
  glt : g < w.heap.size
  olt : ∀ b, O b → b < w.heap.size
section
variable {O : Nat → Prop} {w wx : World} {g p : Nat} {bx : Array Value} {ns : List LN} {i : Nat}
theorem Spo.put (h : Spo O w g p bx ns i wx) {b : Nat} (hb : O b) (off : Nat) (u : Value) : Spo O w g p bx ns i (wx.setCell ⟨b, off, none⟩ u) :=
  ⟨h.keep.set_ (.inl hb) off u, h.box.far (by have := h.olt b hb; have := h.pw; show p ≠ b; omega) u, h.pw, h.nodes.far (p := ⟨b, off, none⟩) (fun e => h.og (by have e : g = b := e; rw [e]; exact hb)) u, h.wr.set_ _ u, h.og, h.glt, h.olt⟩
theorem Spo.row (h : Spo O w g p bx ns i wx) {q : Nat} (hq : q < i * 7) (u : Value) : Spo O w g p bx ns i (wx.setCell ⟨g, q, none⟩ u) :=
  ⟨h.keep.set_ (.inr rfl) q u, h.box.far (by have := h.glt; have := h.pw; show p ≠ g; omega) u, h.pw, h.nodes.put hq u, h.wr.set_ _ u, h.og, h.glt, h.olt⟩
theorem Spo.next (h : Spo O w g p bx ns i wx) : Spo O w g p bx ns (i + 1) wx := ⟨h.keep, h.box, h.pw, h.nodes.next, h.wr, h.og, h.glt, h.olt⟩
theorem Spo.head (h : Spo O w g p bx ns i wx) (u0 u1 u2 u3 u4 u5 u6 : Value) : Spo O w g p bx ns (i + 1) (((((((wx.setCell ⟨g, i * 7, none⟩ u0).setCell ⟨g, i * 7 + 1, none⟩ u1).setCell ⟨g, i * 7 + 2, none⟩ u2).setCell ⟨g, i * 7 + 3, none⟩ u3).setCell ⟨g, i * 7 + 4, none⟩ u4).setCell ⟨g, i * 7 + 5, none⟩ u5).setCell ⟨g, i * 7 + 6, none⟩ u6) :=
  ((((((h.next.row (by omega) u0).row (by omega) u1).row (by omega) u2).row (by omega) u3).row (by omega) u4).row (by omega) u5).row (by omega) u6
end

set_option maxRecDepth 100000 in
set_option maxHeartbeats 2000000 in
theorem hspoil_none (nx : Int) (A : Option Addr) (c : Nat) (w : World) :
    Calls Try.prog 14 #[.agg #[.int .i64 nx, .slice A 0 c]] w fun e w' => e = .returned (.tuple #[]) ∧ Below w.heap.size w w' := by
  have HB0 := Lib.hid ((Below.refl w.heap.size w).alloc (Nat.le_refl _) (.cells #[.int .i64 nx, .slice A 0 c] 27))
  go_enter Try.func14, Try.ntmps14
  go_wp2_with fail
  go_loopg [2, 3, 4, 5] 0 (fun n s2 s3 s4 s5 wx => s2 = .int .i64 0 ∧ wx = w.alloc (.cells #[.int .i64 nx, .slice A 0 c] 27))
  case atStart => exact ⟨rfl, rfl⟩
  case round =>
    obtain ⟨rfl, rfl⟩ := hrel
    go_wp2
    go_end0
    exact ⟨rfl, HB0.out⟩

set_option maxRecDepth 100000 in
set_option maxHeartbeats 2000000 in
theorem hspoil_some (nx : Int) (g c : Nat) (ns : List LN) (w : World) (O : Nat → Prop) (hO : ∀ b, O b → b < w.heap.size) (hn : NodesF w g ns 0) (hg : ¬ O g) (hw : WrL O w ns) (hl : ns.length ≤ 9223372036854775807) :
    Calls Try.prog 14 #[.agg #[.int .i64 nx, .slice (some ⟨g, 0, none⟩) ns.length c]] w fun e w' => e = .returned (.tuple #[]) ∧ KeepO (fun b => O b ∨ b = g) w w' := by
  have HB0 := (Below.refl w.heap.size w).alloc (Nat.le_refl _) (.cells #[.int .i64 nx, .slice (some ⟨g, 0, none⟩) ns.length c] 27)
  have HS : Hid (Spo O w g w.heap.size #[.int .i64 nx, .slice (some ⟨g, 0, none⟩) ns.length c] ns 0 (w.alloc (.cells #[.int .i64 nx, .slice (some ⟨g, 0, none⟩) ns.length c] 27))) := Lib.hid ⟨(KeepO.refl _ _).alloc _, Blk.new _ _ _, Nat.le_refl _, hn.below HB0 hn.lt, hw.below HB0, hg, hn.lt, hO⟩
  clear hn hw HB0 hO hg
  go_enter Try.func14, Try.ntmps14
  go_wp2_with fail
  go_loopg [2, 3, 4, 5] ns.length (fun n s2 s3 s4 s5 wx => ∃ i : Nat, s2 = .int .i64 i ∧ n = ns.length - i ∧ i ≤ ns.length ∧ Spo O w g w.heap.size #[.int .i64 nx, .slice (some ⟨g, 0, none⟩) ns.length c] ns i wx)
  case atStart => exact ⟨0, rfl, rfl, Nat.zero_le _, HS.out⟩
  case round =>
    clear HS
    obtain ⟨i, rfl, rfl, hil, hs⟩ := hrel
    have HS := Lib.hid hs
    clear hs
    have m1 := HS.out.box.cell 1
    have hmlt := HS.out.box.lt
    simp at m1
    by_cases hlt : i < ns.length
    · have hlt' : (i : Int) < ns.length := by omega
      have i0 : (0 : Int) ≤ i := by omega
      have HWR : Hid (ns[i].Wr O wr) := Lib.hid (HS.out.wr _ (List.getElem_mem hlt))
      have HAT : Hid (∀ wy, Spo O w g w.heap.size #[.int .i64 nx, .slice (some ⟨g, 0, none⟩) ns.length c] ns i wy → (∀ j, j < 7 → wy.cell? ⟨g, i * 7 + j, none⟩ = ns[i].cells[j]?) ∧ (∀ j, wy.frozen? ⟨g, j, none⟩ = false) ∧ ns[i].Wr O wy) := Lib.hid (fun wy h => ⟨(h.nodes.at_ hlt).1, (h.nodes.at_ hlt).2, h.wr _ (List.getElem_mem hlt)⟩)
      obtain ⟨x, hx⟩ : ∃ x, ns[i] = x := ⟨_, rfl⟩
      rw [hx] at HAT HWR
      clear hx
      obtain ⟨⟨P, np, ep, hp, _⟩, ⟨K, nk, ek, hk, _⟩, ⟨R, nr, er, hr, _⟩⟩ := HWR.out
      clear HWR
      obtain ⟨xn, xp, xk, xr⟩ := x
      simp only at ep ek er hp hk hr
      subst ep; subst ek; subst er
      unfold maxLen at hp hk hr
      go_wp2_with fail
      clear m1 hmlt
      go_loopg [3] xn.props.length (fun n s3 wx => ∃ k : Nat, s3 = .int .i64 k ∧ n = xn.props.length - k ∧ k ≤ xn.props.length ∧ Spo O w g w.heap.size #[.int .i64 nx, .slice (some ⟨g, 0, none⟩) ns.length c] ns i wx)
      case atStart => exact ⟨0, rfl, rfl, Nat.zero_le _, HS.out⟩
      case round =>
        clear HS
        obtain ⟨k, rfl, rfl, hkl, hs⟩ := hrel
        have HS := Lib.hid hs
        clear hs
        have m1 := HS.out.box.cell 1
        have hmlt := HS.out.box.lt
        simp at m1
        obtain ⟨hcs, hfz, hwr⟩ := HAT.out _ HS.out
        have d4 := hcs 4 (by omega)
        simp [LN.cells, nodeCellsA] at d4
        clear hcs hfz
        by_cases hkt : k < xn.props.length
        · have hkt' : (k : Int) < xn.props.length := by omega
          have k0 : (0 : Int) ≤ k := by omega
          obtain ⟨A0, c0, e0, _, hw0⟩ := hwr.1
          injection e0 with e1 _ e2
          subst e1; subst e2
          obtain ⟨b, off, hA, hbO, hbT, hc⟩ := hw0 k hkt
          clear hwr hw0
          subst hA
          have HBO : Hid (O b) := Lib.hid hbO
          have hc0 := hc 0 (by omega); have hc1 := hc 1 (by omega)
          obtain ⟨y0, hy0⟩ := Option.isSome_iff_exists.1 hc0.1
          obtain ⟨y1, hy1⟩ := Option.isSome_iff_exists.1 hc1.1
          have hz0 := hc0.2; have hz1 := hc1.2
          (try simp only [Nat.mul_one, Nat.add_zero] at hy0 hz0 hy1 hz1)
          clear hc0 hc1 hc hbO
          go_wp2
          go_roundg (xn.props.length - (k + 1))
          case measure => omega
          case rel => exact ⟨k + 1, by go_num, rfl, by omega, (HS.out.put HBO.out _ _).put HBO.out _ _⟩
        · have hkt' : ¬ (k : Int) < xn.props.length := by omega
          clear hwr hkl
          go_wp2_with fail
          clear m1 hmlt
          go_loopg [4] xn.kids.length (fun n s4 wx => ∃ k : Nat, s4 = .int .i64 k ∧ n = xn.kids.length - k ∧ k ≤ xn.kids.length ∧ Spo O w g w.heap.size #[.int .i64 nx, .slice (some ⟨g, 0, none⟩) ns.length c] ns i wx)
          case atStart => exact ⟨0, rfl, rfl, Nat.zero_le _, HS.out⟩
          case round =>
            clear HS
            obtain ⟨k, rfl, rfl, hkl, hs⟩ := hrel
            have HS := Lib.hid hs
            clear hs
            have m1 := HS.out.box.cell 1
            have hmlt := HS.out.box.lt
            simp at m1
            obtain ⟨hcs, hfz, hwr⟩ := HAT.out _ HS.out
            have d5 := hcs 5 (by omega)
            simp [LN.cells, nodeCellsA] at d5
            clear hcs hfz
            by_cases hkt : k < xn.kids.length
            · have hkt' : (k : Int) < xn.kids.length := by omega
              have k0 : (0 : Int) ≤ k := by omega
              obtain ⟨A0, c0, e0, _, hw0⟩ := hwr.2.1
              injection e0 with e1 _ e2
              subst e1; subst e2
              obtain ⟨b, off, hA, hbO, hbT, hc⟩ := hw0 k hkt
              clear hwr hw0
              subst hA
              have HBO : Hid (O b) := Lib.hid hbO
              have hc0 := hc 0 (by omega)
              obtain ⟨y0, hy0⟩ := Option.isSome_iff_exists.1 hc0.1
              have hz0 := hc0.2
              (try simp only [Nat.mul_one, Nat.add_zero] at hy0 hz0)
              clear hc0 hc hbO
              go_wp2
              go_roundg (xn.kids.length - (k + 1))
              case measure => omega
              case rel => exact ⟨k + 1, by go_num, rfl, by omega, HS.out.put HBO.out _ _⟩
            · have hkt' : ¬ (k : Int) < xn.kids.length := by omega
              clear hwr hkl
              go_wp2_with fail
              clear m1 hmlt
              go_loopg [5] xn.refs.length (fun n s5 wx => ∃ k : Nat, s5 = .int .i64 k ∧ n = xn.refs.length - k ∧ k ≤ xn.refs.length ∧ Spo O w g w.heap.size #[.int .i64 nx, .slice (some ⟨g, 0, none⟩) ns.length c] ns i wx)
              case atStart => exact ⟨0, rfl, rfl, Nat.zero_le _, HS.out⟩
              case round =>
                clear HS
                obtain ⟨k, rfl, rfl, hkl, hs⟩ := hrel
                have HS := Lib.hid hs
                clear hs
                have m1 := HS.out.box.cell 1
                have hmlt := HS.out.box.lt
                simp at m1
                obtain ⟨hcs, hfz, hwr⟩ := HAT.out _ HS.out
                have d6 := hcs 6 (by omega)
                simp [LN.cells, nodeCellsA] at d6
                clear hcs hfz
                by_cases hkt : k < xn.refs.length
                · have hkt' : (k : Int) < xn.refs.length := by omega
                  have k0 : (0 : Int) ≤ k := by omega
                  obtain ⟨A0, c0, e0, _, hw0⟩ := hwr.2.2
                  injection e0 with e1 _ e2
                  subst e1; subst e2
                  obtain ⟨b, off, hA, hbO, hbT, hc⟩ := hw0 k hkt
                  clear hwr hw0
                  subst hA
                  have HBO : Hid (O b) := Lib.hid hbO
                  have hc0 := hc 0 (by omega); have hc1 := hc 1 (by omega)
                  obtain ⟨y0, hy0⟩ := Option.isSome_iff_exists.1 hc0.1
                  obtain ⟨y1, hy1⟩ := Option.isSome_iff_exists.1 hc1.1
                  have hz0 := hc0.2; have hz1 := hc1.2
                  (try simp only [Nat.mul_one, Nat.add_zero] at hy0 hz0 hy1 hz1)
                  clear hc0 hc1 hc hbO
                  go_wp2
                  go_roundg (xn.refs.length - (k + 1))
                  case measure => omega
                  case rel => exact ⟨k + 1, by go_num, rfl, by omega, (HS.out.put HBO.out _ _).put HBO.out _ _⟩
                · have hkt' : ¬ (k : Int) < xn.refs.length := by omega
                  clear hwr hkl
                  clear d6
                  obtain ⟨hcs, hfz, hwr⟩ := HAT.out _ HS.out
                  have d0 := hcs 0 (by omega); have d1 := hcs 1 (by omega); have d2 := hcs 2 (by omega); have d3 := hcs 3 (by omega); have d4 := hcs 4 (by omega); have d5 := hcs 5 (by omega); have d6 := hcs 6 (by omega)
                  have z0 := hfz (i * 7); have z1 := hfz (i * 7 + 1); have z2 := hfz (i * 7 + 2); have z3 := hfz (i * 7 + 3); have z4 := hfz (i * 7 + 4); have z5 := hfz (i * 7 + 5); have z6 := hfz (i * 7 + 6)
                  simp [LN.cells, nodeCellsA] at d0 d1 d2 d3 d4 d5 d6
                  clear hcs hfz hwr
                  go_wp2
                  go_roundg (ns.length - (i + 1))
                  case measure => omega
                  case rel => exact ⟨i + 1, by go_num, rfl, by omega, HS.out.head _ _ _ _ _ _ _⟩
    · have hlt' : ¬ (i : Int) < ns.length := by omega
      go_wp2
      go_end0
      exact ⟨rfl, HS.out.keep⟩
/-- a model of the call's own is written over -/
theorem hspoil_any (nx : Int) (v : Value) (l : List LN) (w : World) (base : Nat) (h : OwnM w base v l) :
    Calls Try.prog 14 #[.agg #[.int .i64 nx, v]] w fun e w' => e = .returned (.tuple #[]) ∧ KeepO (fun b => some b ∈ (v.ownBlock :: allBlocks l)) w w' := by
  obtain ⟨A, c, rfl⟩ := own_shape h.row
  by_cases h0 : l.length = 0
  · have hs := hspoil_none nx A c w
    rw [← h0] at hs
    exact hs.mono fun e w' ⟨h1, h2⟩ => ⟨h1, (KeepO.refl _ _).below h2⟩
  · obtain ⟨g, cap, e0, _, _, _, _⟩ := own_some h.row (by omega)
    injection e0 with e1 _ e2
    subst e1; subst e2
    refine (hspoil_some nx g c l w (fun b => some b ∈ allBlocks l) (fun b hb => (h.lt b (List.mem_cons_of_mem _ hb)).2) h.nodesF (fun hb => ?_) h.wr (by have := own_max h.row; unfold maxLen at this; omega)).mono fun e w' ⟨h1, h2⟩ => ⟨h1, h2.os, h2.tape, h2.output, h2.size, fun k hk hn => h2.block k hk fun hb => hn ?_⟩
    · obtain ⟨x, hx, hb⟩ := List.mem_flatMap.1 hb
      exact h.row_ne hx hb rfl
    · rcases hb with hb | hb
      · exact List.mem_cons_of_mem _ hb
      · subst hb; exact List.mem_cons_self ..
end Go.Proofs.Ytpjkifbicfcajaa
