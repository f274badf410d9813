/- what was answered is written over: topiarylaw02.spoil, in what blocks -/
import Derived.Test.YtmafhaadcjgcbaaASpoil
import Derived.Test.YtmafhaadcjgcbaaMutK
import Derived.Test.YtmafhaadcjgcbaaHMem
set_option linter.unusedSimpArgs false
set_option linter.unusedVariables false
namespace Go.Proofs.Ytmafhaadcjgcbaa
open Go Go.RowKit

/-- the blocks from B to T -/
def SO (B T : Nat) (b : Nat) : Prop := B ≤ b ∧ b < T
set_option maxRecDepth 100000 in
set_option maxHeartbeats 2000000 in
theorem spoilK_any (nx : Int) (g c B T : Nat) (ns : List RN) (w : World) (hT : T ≤ w.heap.size) (hgB : B ≤ g) (hgT2 : g < T) (hn : NodesFrom w g ns 0) (hw : WrAll B T g ns w) (hlen : ∀ x ∈ ns, x.Len) (hl : ns.length ≤ 9223372036854775807) :
    Calls Try.prog 36 #[.agg #[.int .i64 nx, .slice (some ⟨g, 0, none⟩) ns.length c]] w fun e w' => e = .returned (.tuple #[]) ∧ KeepO (SO B T) w w' := by
  have hgT : g < w.heap.size := by obtain ⟨_, h1, _⟩ := hn; exact h1.lt
  have HB0 := Lib.hid ((Below.refl w.heap.size w).alloc (Nat.le_refl _) (.cells #[.int .i64 nx, .slice (some ⟨g, 0, none⟩) ns.length c] 24))
  have HN0 := Lib.hid (hn.below HB0.out hgT); have HW0 := Lib.hid (hw.below (HB0.out.mono hT))
  have HLEN := Lib.hid hlen
  clear hn hw hlen
  go_enter Try.func36, Try.ntmps36
  go_wp2_with fail
  go_loopg [2, 3, 4, 5, 6] ns.length (fun n s2 s3 s4 s5 s6 wx => ∃ i : Nat, s2 = .int .i64 i ∧ n = ns.length - i ∧ i ≤ ns.length ∧ KeepO (SO B T) w wx ∧ w.heap.size < wx.heap.size ∧ Blk wx w.heap.size 24 #[.int .i64 nx, .slice (some ⟨g, 0, none⟩) ns.length c] ∧ NodesFrom wx g ns i ∧ WrAll B T g ns wx)
  case atStart => exact ⟨0, rfl, rfl, Nat.zero_le _, (KeepO.refl (SO B T) w).below HB0.out, by simp, Blk.new _ _ _, HN0.out, HW0.out⟩
  case round =>
    clear HB0 HN0 HW0
    obtain ⟨i, rfl, rfl, hil, hb, hsz, hmb, hnf, hwa⟩ := hrel
    have HB := Lib.hid hb; have HM := Lib.hid hmb; have HN := Lib.hid hnf; have HW := Lib.hid hwa
    have m1 := hmb.cell 1
    have hmlt := hmb.lt
    simp at m1
    clear hb hmb hwa
    by_cases hlt : i < ns.length
    · have hlt' : (i : Int) < ns.length := by omega
      have i0 : (0 : Int) ≤ i := by omega
      obtain ⟨hcs, hfz⟩ := hnf.at_ hlt
      obtain ⟨x, hx⟩ : ∃ x, ns[i] = x := ⟨_, rfl⟩
      have HX : Hid (x ∈ ns) := Lib.hid (by rw [← hx]; exact List.getElem_mem hlt)
      rw [hx] at hcs
      obtain ⟨l1, l2, l3⟩ := HLEN.out x HX.out
      have d0 := hcs 0 (by omega); have d1 := hcs 1 (by omega); have d2 := hcs 2 (by omega); have d3 := hcs 3 (by omega); have d4 := hcs 4 (by omega); have d5 := hcs 5 (by omega); have d6 := hcs 6 (by omega)
      simp [RN.cells] at d0 d1 d2 d3 d4 d5 d6
      clear hcs hx hnf hfz
      go_wp2_with fail
      obtain ⟨p, hp⟩ : ∃ p, wr.heap.size = p := ⟨_, rfl⟩
      obtain ⟨u, hu⟩ : ∃ u : World, wr.alloc (.cells #[.int .i64 x.id, .string x.con, .int .i64 x.par, .string x.role, .slice x.P x.np x.cp, .slice x.K x.nk x.ck, .slice x.R x.nr x.cr] 38) = u := ⟨_, rfl⟩
      have HU : Hid (Below wr.heap.size wr u) := Lib.hid (by rw [← hu]; exact (Below.refl _ _).alloc (Nat.le_refl _) _)
      have HX2 : Hid (Blk u p 38 x.cells) := Lib.hid (by rw [← hu, ← hp]; exact Blk.new _ _ _)
      have hpw : w.heap.size < p := by omega
      have HS : Hid (KeepO (SO B T) w u ∧ w.heap.size < u.heap.size ∧ Blk u w.heap.size 24 #[.int .i64 nx, .slice (some ⟨g, 0, none⟩) ns.length c] ∧ NodesFrom u g ns i ∧ WrAll B T g ns u ∧ Blk u p 38 x.cells) :=
        Lib.hid ⟨HB.out.below HU.out, by have := HU.out.size; omega, HM.out.below HU.out hmlt, HN.out.below HU.out (by omega), HW.out.below (HU.out.mono (by omega)), HX2.out⟩
      rw [hu, hp]
      clear hu hp HB HM HN HW HU HX2 m1 d0 d1 d2 d3 d4 d5 d6 hsz hmlt
      go_loopg [4] x.np (fun n s4 wx => ∃ k : Nat, s4 = .int .i64 k ∧ n = x.np - k ∧ k ≤ x.np ∧ KeepO (SO B T) w wx ∧ w.heap.size < wx.heap.size ∧ Blk wx w.heap.size 24 #[.int .i64 nx, .slice (some ⟨g, 0, none⟩) ns.length c] ∧ NodesFrom wx g ns i ∧ WrAll B T g ns wx ∧ Blk wx p 38 x.cells)
      case atStart => exact ⟨0, rfl, rfl, Nat.zero_le _, HS.out⟩
      case round =>
        clear HS
        obtain ⟨k, rfl, rfl, hkl, hb, hsz, hmb, hnf, hwa, hxb⟩ := hrel
        have HB := Lib.hid hb; have HM := Lib.hid hmb; have HN := Lib.hid hnf; have HW := Lib.hid hwa; have HXB := Lib.hid hxb
        have x4 := hxb.cell 4
        have hxlt := hxb.lt
        simp [RN.cells] at x4
        clear hb hmb hnf hxb
        by_cases hkt : k < x.np
        · have hkt' : (k : Int) < x.np := by omega
          have k0 : (0 : Int) ≤ k := by omega
          have h := hwa x HX.out
          clear hwa
          obtain ⟨b, off, hA, hbB, hbT, hbg, hc⟩ := h.1 k hkt
          have hc := hc 1 (by omega)
          obtain ⟨y, hy⟩ := Option.isSome_iff_exists.1 hc.1
          have hz := hc.2
          (try simp only [Nat.mul_one, Nat.add_zero] at hy hz)
          rw [hA] at x4
          clear h hc
          go_wp2
          go_roundg (x.np - (k + 1))
          case measure => omega
          case rel => exact ⟨k + 1, by go_num, rfl, by omega, HB.out.set_ ⟨hbB, hbT⟩ _ _, by simpa using hsz, HM.out.far (by show w.heap.size ≠ b; omega) _, HN.out.far (fun e => hbg e.symm) _, HW.out.set_ _ _, HXB.out.far (by show p ≠ b; omega) _⟩
        · have hkt' : ¬ (k : Int) < x.np := by omega
          have HS : Hid (KeepO (SO B T) w wr ∧ w.heap.size < wr.heap.size ∧ Blk wr w.heap.size 24 #[.int .i64 nx, .slice (some ⟨g, 0, none⟩) ns.length c] ∧ NodesFrom wr g ns i ∧ WrAll B T g ns wr ∧ Blk wr p 38 x.cells) := Lib.hid ⟨HB.out, hsz, HM.out, HN.out, hwa, HXB.out⟩
          clear HB HM HN HW HXB hwa
          go_wp2_with fail
          clear x4 hxlt hkl
          go_loopg [5] x.nk (fun n s5 wx => ∃ k : Nat, s5 = .int .i64 k ∧ n = x.nk - k ∧ k ≤ x.nk ∧ KeepO (SO B T) w wx ∧ w.heap.size < wx.heap.size ∧ Blk wx w.heap.size 24 #[.int .i64 nx, .slice (some ⟨g, 0, none⟩) ns.length c] ∧ NodesFrom wx g ns i ∧ WrAll B T g ns wx ∧ Blk wx p 38 x.cells)
          case atStart => exact ⟨0, rfl, rfl, Nat.zero_le _, HS.out⟩
          case round =>
            clear HS
            obtain ⟨k, rfl, rfl, hkl, hb, hsz, hmb, hnf, hwa, hxb⟩ := hrel
            have HB := Lib.hid hb; have HM := Lib.hid hmb; have HN := Lib.hid hnf; have HW := Lib.hid hwa; have HXB := Lib.hid hxb
            have x5 := hxb.cell 5
            have hxlt := hxb.lt
            simp [RN.cells] at x5
            clear hb hmb hnf hxb
            by_cases hkt : k < x.nk
            · have hkt' : (k : Int) < x.nk := by omega
              have k0 : (0 : Int) ≤ k := by omega
              have h := hwa x HX.out
              clear hwa
              obtain ⟨b, off, hA, hbB, hbT, hbg, hc⟩ := h.2.1 k hkt
              have hc := hc 0 (by omega)
              obtain ⟨y, hy⟩ := Option.isSome_iff_exists.1 hc.1
              have hz := hc.2
              (try simp only [Nat.mul_one, Nat.add_zero] at hy hz)
              rw [hA] at x5
              clear h hc
              go_wp2
              go_roundg (x.nk - (k + 1))
              case measure => omega
              case rel => exact ⟨k + 1, by go_num, rfl, by omega, HB.out.set_ ⟨hbB, hbT⟩ _ _, by simpa using hsz, HM.out.far (by show w.heap.size ≠ b; omega) _, HN.out.far (fun e => hbg e.symm) _, HW.out.set_ _ _, HXB.out.far (by show p ≠ b; omega) _⟩
            · have hkt' : ¬ (k : Int) < x.nk := by omega
              have HS : Hid (KeepO (SO B T) w wr ∧ w.heap.size < wr.heap.size ∧ Blk wr w.heap.size 24 #[.int .i64 nx, .slice (some ⟨g, 0, none⟩) ns.length c] ∧ NodesFrom wr g ns i ∧ WrAll B T g ns wr ∧ Blk wr p 38 x.cells) := Lib.hid ⟨HB.out, hsz, HM.out, HN.out, hwa, HXB.out⟩
              clear HB HM HN HW HXB hwa
              go_wp2_with fail
              clear x5 hxlt hkl
              go_loopg [6] x.nr (fun n s6 wx => ∃ k : Nat, s6 = .int .i64 k ∧ n = x.nr - k ∧ k ≤ x.nr ∧ KeepO (SO B T) w wx ∧ w.heap.size < wx.heap.size ∧ Blk wx w.heap.size 24 #[.int .i64 nx, .slice (some ⟨g, 0, none⟩) ns.length c] ∧ NodesFrom wx g ns i ∧ WrAll B T g ns wx ∧ Blk wx p 38 x.cells)
              case atStart => exact ⟨0, rfl, rfl, Nat.zero_le _, HS.out⟩
              case round =>
                clear HS
                obtain ⟨k, rfl, rfl, hkl, hb, hsz, hmb, hnf, hwa, hxb⟩ := hrel
                have HB := Lib.hid hb; have HM := Lib.hid hmb; have HN := Lib.hid hnf; have HW := Lib.hid hwa; have HXB := Lib.hid hxb
                have x6 := hxb.cell 6
                have hxlt := hxb.lt
                simp [RN.cells] at x6
                clear hb hmb hnf hxb
                by_cases hkt : k < x.nr
                · have hkt' : (k : Int) < x.nr := by omega
                  have k0 : (0 : Int) ≤ k := by omega
                  have h := hwa x HX.out
                  clear hwa
                  obtain ⟨b, off, hA, hbB, hbT, hbg, hc⟩ := h.2.2 k hkt
                  have hc := hc 1 (by omega)
                  obtain ⟨y, hy⟩ := Option.isSome_iff_exists.1 hc.1
                  have hz := hc.2
                  (try simp only [Nat.mul_one, Nat.add_zero] at hy hz)
                  rw [hA] at x6
                  clear h hc
                  go_wp2
                  go_roundg (x.nr - (k + 1))
                  case measure => omega
                  case rel => exact ⟨k + 1, by go_num, rfl, by omega, HB.out.set_ ⟨hbB, hbT⟩ _ _, by simpa using hsz, HM.out.far (by show w.heap.size ≠ b; omega) _, HN.out.far (fun e => hbg e.symm) _, HW.out.set_ _ _, HXB.out.far (by show p ≠ b; omega) _⟩
                · have hkt' : ¬ (k : Int) < x.nr := by omega
                  have HS : Hid (KeepO (SO B T) w wr ∧ w.heap.size < wr.heap.size ∧ Blk wr w.heap.size 24 #[.int .i64 nx, .slice (some ⟨g, 0, none⟩) ns.length c] ∧ NodesFrom wr g ns i ∧ WrAll B T g ns wr ∧ Blk wr p 38 x.cells) := Lib.hid ⟨HB.out, hsz, HM.out, HN.out, hwa, HXB.out⟩
                  clear HB HM HN HW HXB hwa
                  clear hkl
                  obtain ⟨hb, hsz2, hmb, hnf, hwa, hxb⟩ := HS.out
                  obtain ⟨hcs, hfz⟩ := hnf.at_ hlt
                  have m1 := hmb.cell 1
                  have d0 := hcs 0 (by omega)
                  have z0 := hfz (i * 7)
                  have hmlt := hmb.lt
                  simp at m1
                  simp [RN.cells] at d0
                  clear hcs hfz hb hmb hnf hwa hxb
                  go_wp2
                  go_roundg (ns.length - (i + 1))
                  case measure => omega
                  case rel =>
                    obtain ⟨hb, hsz2, hmb, hnf, hwa, hxb⟩ := HS.out
                    exact ⟨i + 1, by go_num, rfl, by omega, hb.set_ ⟨hgB, hgT2⟩ _ _, by simpa using hsz2, hmb.far (by show w.heap.size ≠ g; omega) _, hnf.next _, hwa.set_ _ _⟩
    · have hlt' : ¬ (i : Int) < ns.length := by omega
      clear HN HW hnf
      go_wp2
      go_end0
      exact ⟨rfl, HB.out⟩

set_option maxRecDepth 100000 in
set_option maxHeartbeats 2000000 in
theorem spoilN_any (nx : Int) (A : Option Addr) (c : Nat) (w : World) :
    Calls Try.prog 36 #[.agg #[.int .i64 nx, .slice A 0 c]] w fun e w' => e = .returned (.tuple #[]) ∧ Below w.heap.size w w' := by
  have HB0 := Lib.hid ((Below.refl w.heap.size w).alloc (Nat.le_refl _) (.cells #[.int .i64 nx, .slice A 0 c] 24))
  go_enter Try.func36, Try.ntmps36
  go_wp2_with fail
  go_loopg [2, 3, 4, 5, 6] 0 (fun n s2 s3 s4 s5 s6 wx => s2 = .int .i64 0 ∧ wx = w.alloc (.cells #[.int .i64 nx, .slice A 0 c] 24))
  case atStart => exact ⟨rfl, rfl⟩
  case round =>
    obtain ⟨rfl, rfl⟩ := hrel
    go_wp2
    go_end0
    exact ⟨rfl, HB0.out⟩
def sA : Value → Option Addr
  | .slice A _ _ => A
  | _ => none
def sC : Value → Nat
  | .slice _ _ c => c
  | _ => 0
def RN.of (x : LN) : RN := ⟨x.n.id, x.n.concept, x.n.parent, x.n.role, sA x.p, x.n.props.length, sC x.p, sA x.k, x.n.kids.length, sC x.k, sA x.r, x.n.refs.length, sC x.r⟩
theorem wrR_of {O : Nat → Prop} {size B T g n : Nat} {w : World} {A : Option Addr} (h : WrS O size w A n) (hO : ∀ b, O b → B ≤ b ∧ b < T ∧ b ≠ g) : WrR size B T g w A n := fun i hi => by
  obtain ⟨b, off, e, h1, _, h4⟩ := h i hi
  exact ⟨b, off, e, (hO b h1).1, (hO b h1).2.1, (hO b h1).2.2, h4⟩
/-- a model of the call's own is written over -/
theorem spoil_own (nx : Int) (v : Value) (l : List LN) (w0 w : World) (base : Nat) (h0 : OwnM w0 base v l) (hb : Below w0.heap.size w0 w) :
    Calls Try.prog 36 #[.agg #[.int .i64 nx, v]] w fun e w' => e = .returned (.tuple #[]) ∧ KeepO (SO base w0.heap.size) w w' := by
  have h := h0.below hb
  obtain ⟨A, c, rfl⟩ := own_shape h.row
  by_cases hz : l.length = 0
  · have hs := spoilN_any nx A c w
    rw [← hz] at hs
    exact hs.mono fun e w' ⟨h1, h2⟩ => ⟨h1, (KeepO.refl _ _).below h2⟩
  · obtain ⟨g, cap, e0, _, _, _, _⟩ := own_some h.row (by omega)
    injection e0 with e1 _ e2
    subst e1; subst e2
    have hg := h0.lt g (List.mem_cons_self ..)
    have hsh : ∀ x ∈ l, x.cells = (RN.of x).cells.toList := fun x hx => by
      have ho := h.lists x hx
      obtain ⟨A1, c1, e1⟩ := own_shape ho.p
      obtain ⟨A2, c2, e2⟩ := ho.k.shape
      obtain ⟨A3, c3, e3⟩ := own_shape ho.r
      unfold LN.cells RN.of RN.cells nodeCellsA
      rw [e1, e2, e3]
      rfl
    have hn : NodesFrom w g (l.map RN.of) 0 := by
      obtain ⟨cs, h1, h2, h3⟩ := h.nodesF
      refine ⟨cs, h1, by rw [List.length_map]; exact h2, fun k hk hik j hj => ?_⟩
      have hk' : k < l.length := by simpa using hk
      rw [h3 k hk' hik j hj, List.getElem_map, hsh _ (List.getElem_mem hk'), Array.getElem?_toList]
    have hlen : ∀ x ∈ l.map RN.of, x.Len := fun y hy => by
      obtain ⟨x, hx, rfl⟩ := List.mem_map.1 hy
      have ho := h.lists x hx
      have a := own_max ho.p; have b := own_max ho.k; have d := own_max ho.r
      unfold maxLen at a b d
      exact ⟨a, b, d⟩
    have hw : WrAll base w0.heap.size g (l.map RN.of) w := fun y hy => by
      obtain ⟨x, hx, rfl⟩ := List.mem_map.1 hy
      have hO : ∀ b, some b ∈ allBlocks l → base ≤ b ∧ b < w0.heap.size ∧ b ≠ g := fun b hb => by
        obtain ⟨y, hy, hb2⟩ := List.mem_flatMap.1 hb
        have h5 := h0.lt b (List.mem_cons_of_mem _ hb)
        refine ⟨h5.1, h5.2, fun e => ?_⟩
        subst e
        exact h.row_ne hy hb2 rfl
      obtain ⟨⟨A1, c1, e1, _, h1⟩, ⟨A2, c2, e2, _, h2⟩, ⟨A3, c3, e3, _, h3⟩⟩ := h.wr x hx
      unfold RN.of
      rw [e1, e2, e3]
      exact ⟨wrR_of h1 hO, wrR_of h2 hO, wrR_of h3 hO⟩
    have hm := own_max h.row
    unfold maxLen at hm
    have := spoilK_any nx g c base w0.heap.size (l.map RN.of) w hb.size hg.1 hg.2 hn hw hlen (by rw [List.length_map]; omega)
    rw [List.length_map] at this
    exact this
end Go.Proofs.Ytmafhaadcjgcbaa
