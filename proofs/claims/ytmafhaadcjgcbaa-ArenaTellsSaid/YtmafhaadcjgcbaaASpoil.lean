import Derived.Test.YtmafhaadcjgcbaaAOwnI
namespace Go.Proofs.Ytmafhaadcjgcbaa
open Go Go.RowKit

/-! ### Lists that may be written over -/
/-- elements that lie at B or above, below T, not in block g, and may be written -/
def WrR (size B T g : Nat) (w : World) (A : Option Addr) (n : Nat) : Prop :=
  ∀ i, i < n → ∃ b off, A = some ⟨b, off, none⟩ ∧ B ≤ b ∧ b < T ∧ b ≠ g ∧ ∀ j, j < size → (w.cell? ⟨b, off + i * size + j, none⟩).isSome = true ∧ w.frozen? ⟨b, off + i * size + j, none⟩ = false
section
variable {size B T g n : Nat} {w w' : World} {A : Option Addr}
theorem WrR.set_ (h : WrR size B T g w A n) (p : Addr) (u : Value) : WrR size B T g (w.setCell p u) A n := fun i hi => by
  obtain ⟨b, off, e, h1, h2, h3, h4⟩ := h i hi
  refine ⟨b, off, e, h1, h2, h3, fun j hj => ⟨?_, by rw [World.frozen?_setCell]; exact (h4 j hj).2⟩⟩
  by_cases hp : p = ⟨b, off + i * size + j, none⟩
  · subst hp; rw [World.cell?_setCell_same' _ _ _ (h4 j hj).1]; rfl
  · rw [World.cell?_setCell_other (h := hp)]; exact (h4 j hj).1
theorem WrR.below (h : WrR size B T g w A n) (hb : Below T w w') : WrR size B T g w' A n := fun i hi => by
  obtain ⟨b, off, e, h1, h2, h3, h4⟩ := h i hi
  refine ⟨b, off, e, h1, h2, h3, fun j hj => ?_⟩
  rw [World.cell?_of_block (hb.block b h2), World.frozen?_of_block (w := w) (a := ⟨b, _, none⟩) (hb.block b h2)]
  exact h4 j hj
theorem WrR.nil (A : Option Addr) : WrR size B T g w A 0 := fun _ h => absurd h (Nat.not_lt_zero _)
end
/-- a node as its cells lie -/
structure RN where
  id : Int
  con : ByteArray
  par : Int
  role : ByteArray
  P : Option Addr
  np : Nat
  cp : Nat
  K : Option Addr
  nk : Nat
  ck : Nat
  R : Option Addr
  nr : Nat
  cr : Nat
def RN.cells (x : RN) : Array Value := #[.int .i64 x.id, .string x.con, .int .i64 x.par, .string x.role, .slice x.P x.np x.cp, .slice x.K x.nk x.ck, .slice x.R x.nr x.cr]
def RN.Wr (B T g : Nat) (w : World) (x : RN) : Prop := WrR 2 B T g w x.P x.np ∧ WrR 1 B T g w x.K x.nk ∧ WrR 2 B T g w x.R x.nr
def RN.Len (x : RN) : Prop := x.np ≤ 9223372036854775807 ∧ x.nk ≤ 9223372036854775807 ∧ x.nr ≤ 9223372036854775807
def WrAll (B T g : Nat) (ns : List RN) (w : World) : Prop := ∀ x ∈ ns, x.Wr B T g w
theorem WrAll.set_ {B T g : Nat} {ns : List RN} {w : World} (h : WrAll B T g ns w) (p : Addr) (u : Value) : WrAll B T g ns (w.setCell p u) := fun x hx => ⟨(h x hx).1.set_ p u, (h x hx).2.1.set_ p u, (h x hx).2.2.set_ p u⟩
theorem WrAll.below {B T g : Nat} {ns : List RN} {w w' : World} (h : WrAll B T g ns w) (hb : Below T w w') : WrAll B T g ns w' := fun x hx => ⟨(h x hx).1.below hb, (h x hx).2.1.below hb, (h x hx).2.2.below hb⟩
/-- a block of nodes, those from i on as they were -/
def NodesFrom (w : World) (g : Nat) (ns : List RN) (i : Nat) : Prop :=
  ∃ cs, Blk w g 38 cs ∧ cs.size = ns.length * 7 ∧ ∀ k (h : k < ns.length), i ≤ k → ∀ j, j < 7 → cs[k * 7 + j]? = ns[k].cells[j]?
section
variable {w w' : World} {g i : Nat} {ns : List RN}
theorem NodesFrom.far (h : NodesFrom w g ns i) {p : Addr} (hp : g ≠ p.block) (u : Value) : NodesFrom (w.setCell p u) g ns i := by
  obtain ⟨cs, h1, h2⟩ := h
  exact ⟨cs, h1.far hp u, h2⟩
theorem NodesFrom.below {T : Nat} (h : NodesFrom w g ns i) (hb : Below T w w') (hg : g < T) : NodesFrom w' g ns i := by
  obtain ⟨cs, h1, h2⟩ := h
  exact ⟨cs, h1.below hb hg, h2⟩
theorem NodesFrom.next (h : NodesFrom w g ns i) (u : Value) : NodesFrom (w.setCell ⟨g, i * 7, none⟩ u) g ns (i + 1) := by
  obtain ⟨cs, h1, h2, h3⟩ := h
  refine ⟨_, h1.set_ (i * 7) u, by simpa using h2, fun k hk hik j hj => ?_⟩
  rw [← h3 k hk (by omega) j hj, Array.getElem?_setIfInBounds_ne (by omega)]
theorem NodesFrom.at_ (h : NodesFrom w g ns i) (hi : i < ns.length) : (∀ j, j < 7 → w.cell? ⟨g, i * 7 + j, none⟩ = ns[i].cells[j]?) ∧ ∀ j, w.frozen? ⟨g, j, none⟩ = false := by
  obtain ⟨cs, h1, h2, h3⟩ := h
  exact ⟨fun j hj => by rw [h1.cell, h3 i hi (Nat.le_refl _) j hj], fun j => h1.frozen j⟩
end

set_option maxRecDepth 100000 in
set_option maxHeartbeats 2000000 in
theorem spoil_any (nx : Int) (g c B : Nat) (ns : List RN) (w : World) (hB : B ≤ w.heap.size) (hgB : B ≤ g) (hn : NodesFrom w g ns 0) (hw : WrAll B w.heap.size g ns w) (hlen : ∀ x ∈ ns, x.Len) (hl : ns.length ≤ 9223372036854775807) :
    Calls Try.prog 36 #[.agg #[.int .i64 nx, .slice (some ⟨g, 0, none⟩) ns.length c]] w fun e w' => e = .returned (.tuple #[]) ∧ Below B w w' := by
  have hgT : g < w.heap.size := by obtain ⟨_, h1, _⟩ := hn; exact h1.lt
  have HB0 := Lib.hid ((Below.refl w.heap.size w).alloc (Nat.le_refl _) (.cells #[.int .i64 nx, .slice (some ⟨g, 0, none⟩) ns.length c] 24))
  have HN0 := Lib.hid (hn.below HB0.out hgT); have HW0 := Lib.hid (hw.below HB0.out)
  have HLEN := Lib.hid hlen
  clear hn hw hlen
  go_enter Try.func36, Try.ntmps36
  go_wp2_with fail
  go_loopg [2, 3, 4, 5, 6] ns.length (fun n s2 s3 s4 s5 s6 wx => ∃ i : Nat, s2 = .int .i64 i ∧ n = ns.length - i ∧ i ≤ ns.length ∧ Below B w wx ∧ w.heap.size < wx.heap.size ∧ Blk wx w.heap.size 24 #[.int .i64 nx, .slice (some ⟨g, 0, none⟩) ns.length c] ∧ NodesFrom wx g ns i ∧ WrAll B w.heap.size g ns wx)
  case atStart => exact ⟨0, rfl, rfl, Nat.zero_le _, HB0.out.mono hB, by simp, Blk.new _ _ _, HN0.out, HW0.out⟩
  case round =>
    clear HB0 HN0 HW0
    obtain ⟨i, rfl, rfl, hil, hb, hsz, hmb, hnf, hwa⟩ := hrel
    have HB := Lib.hid hb; have HM := Lib.hid hmb; have HN := Lib.hid hnf; have HW := Lib.hid hwa
    have m1 := hmb.cell 1
    have hmlt := hmb.lt
    simp at m1
    clear hb hmb hwa
    by_cases hlt : i < ns.length
    · have hlt' : (i : Int) < ns.length := by omega
      have i0 : (0 : Int) ≤ i := by omega
      obtain ⟨hcs, hfz⟩ := hnf.at_ hlt
      obtain ⟨x, hx⟩ : ∃ x, ns[i] = x := ⟨_, rfl⟩
      have HX : Hid (x ∈ ns) := Lib.hid (by rw [← hx]; exact List.getElem_mem hlt)
      rw [hx] at hcs
      obtain ⟨l1, l2, l3⟩ := HLEN.out x HX.out
      have d0 := hcs 0 (by omega); have d1 := hcs 1 (by omega); have d2 := hcs 2 (by omega); have d3 := hcs 3 (by omega); have d4 := hcs 4 (by omega); have d5 := hcs 5 (by omega); have d6 := hcs 6 (by omega)
      simp [RN.cells] at d0 d1 d2 d3 d4 d5 d6
      clear hcs hx hnf hfz
      go_wp2_with fail
      obtain ⟨p, hp⟩ : ∃ p, wr.heap.size = p := ⟨_, rfl⟩
      obtain ⟨u, hu⟩ : ∃ u : World, wr.alloc (.cells #[.int .i64 x.id, .string x.con, .int .i64 x.par, .string x.role, .slice x.P x.np x.cp, .slice x.K x.nk x.ck, .slice x.R x.nr x.cr] 38) = u := ⟨_, rfl⟩
      have HU : Hid (Below wr.heap.size wr u) := Lib.hid (by rw [← hu]; exact (Below.refl _ _).alloc (Nat.le_refl _) _)
      have HX2 : Hid (Blk u p 38 x.cells) := Lib.hid (by rw [← hu, ← hp]; exact Blk.new _ _ _)
      have hpw : w.heap.size < p := by omega
      have HS : Hid (Below B w u ∧ w.heap.size < u.heap.size ∧ Blk u w.heap.size 24 #[.int .i64 nx, .slice (some ⟨g, 0, none⟩) ns.length c] ∧ NodesFrom u g ns i ∧ WrAll B w.heap.size g ns u ∧ Blk u p 38 x.cells) :=
        Lib.hid ⟨HB.out.trans (HU.out.mono (by omega)), by have := HU.out.size; omega, HM.out.below HU.out hmlt, HN.out.below HU.out (by omega), HW.out.below (HU.out.mono (by omega)), HX2.out⟩
      rw [hu, hp]
      clear hu hp HB HM HN HW HU HX2 m1 d0 d1 d2 d3 d4 d5 d6 hsz hmlt
      go_loopg [4] x.np (fun n s4 wx => ∃ k : Nat, s4 = .int .i64 k ∧ n = x.np - k ∧ k ≤ x.np ∧ Below B w wx ∧ w.heap.size < wx.heap.size ∧ Blk wx w.heap.size 24 #[.int .i64 nx, .slice (some ⟨g, 0, none⟩) ns.length c] ∧ NodesFrom wx g ns i ∧ WrAll B w.heap.size g ns wx ∧ Blk wx p 38 x.cells)
      case atStart => exact ⟨0, rfl, rfl, Nat.zero_le _, HS.out⟩
      case round =>
        clear HS
        obtain ⟨k, rfl, rfl, hkl, hb, hsz, hmb, hnf, hwa, hxb⟩ := hrel
        have HB := Lib.hid hb; have HM := Lib.hid hmb; have HN := Lib.hid hnf; have HW := Lib.hid hwa; have HXB := Lib.hid hxb
        have x4 := hxb.cell 4
        have hxlt := hxb.lt
        simp [RN.cells] at x4
        clear hb hmb hnf hxb
        by_cases hkt : k < x.np
        · have hkt' : (k : Int) < x.np := by omega
          have k0 : (0 : Int) ≤ k := by omega
          have h := hwa x HX.out
          clear hwa
          obtain ⟨b, off, hA, hbB, hbT, hbg, hc⟩ := h.1 k hkt
          have hc := hc 1 (by omega)
          obtain ⟨y, hy⟩ := Option.isSome_iff_exists.1 hc.1
          have hz := hc.2
          (try simp only [Nat.mul_one, Nat.add_zero] at hy hz)
          rw [hA] at x4
          clear h hc
          go_wp2
          go_roundg (x.np - (k + 1))
          case measure => omega
          case rel => exact ⟨k + 1, by go_num, rfl, by omega, HB.out.setCell (p := ⟨b, _, none⟩) hbB _, by simpa using hsz, HM.out.far (by show w.heap.size ≠ b; omega) _, HN.out.far (fun e => hbg e.symm) _, HW.out.set_ _ _, HXB.out.far (by show p ≠ b; omega) _⟩
        · have hkt' : ¬ (k : Int) < x.np := by omega
          have HS : Hid (Below B w wr ∧ w.heap.size < wr.heap.size ∧ Blk wr w.heap.size 24 #[.int .i64 nx, .slice (some ⟨g, 0, none⟩) ns.length c] ∧ NodesFrom wr g ns i ∧ WrAll B w.heap.size g ns wr ∧ Blk wr p 38 x.cells) := Lib.hid ⟨HB.out, hsz, HM.out, HN.out, hwa, HXB.out⟩
          clear HB HM HN HW HXB hwa
          go_wp2_with fail
          clear x4 hxlt hkl
          go_loopg [5] x.nk (fun n s5 wx => ∃ k : Nat, s5 = .int .i64 k ∧ n = x.nk - k ∧ k ≤ x.nk ∧ Below B w wx ∧ w.heap.size < wx.heap.size ∧ Blk wx w.heap.size 24 #[.int .i64 nx, .slice (some ⟨g, 0, none⟩) ns.length c] ∧ NodesFrom wx g ns i ∧ WrAll B w.heap.size g ns wx ∧ Blk wx p 38 x.cells)
          case atStart => exact ⟨0, rfl, rfl, Nat.zero_le _, HS.out⟩
          case round =>
            clear HS
            obtain ⟨k, rfl, rfl, hkl, hb, hsz, hmb, hnf, hwa, hxb⟩ := hrel
            have HB := Lib.hid hb; have HM := Lib.hid hmb; have HN := Lib.hid hnf; have HW := Lib.hid hwa; have HXB := Lib.hid hxb
            have x5 := hxb.cell 5
            have hxlt := hxb.lt
            simp [RN.cells] at x5
            clear hb hmb hnf hxb
            by_cases hkt : k < x.nk
            · have hkt' : (k : Int) < x.nk := by omega
              have k0 : (0 : Int) ≤ k := by omega
              have h := hwa x HX.out
              clear hwa
              obtain ⟨b, off, hA, hbB, hbT, hbg, hc⟩ := h.2.1 k hkt
              have hc := hc 0 (by omega)
              obtain ⟨y, hy⟩ := Option.isSome_iff_exists.1 hc.1
              have hz := hc.2
              (try simp only [Nat.mul_one, Nat.add_zero] at hy hz)
              rw [hA] at x5
              clear h hc
              go_wp2
              go_roundg (x.nk - (k + 1))
              case measure => omega
              case rel => exact ⟨k + 1, by go_num, rfl, by omega, HB.out.setCell (p := ⟨b, _, none⟩) hbB _, by simpa using hsz, HM.out.far (by show w.heap.size ≠ b; omega) _, HN.out.far (fun e => hbg e.symm) _, HW.out.set_ _ _, HXB.out.far (by show p ≠ b; omega) _⟩
            · have hkt' : ¬ (k : Int) < x.nk := by omega
              have HS : Hid (Below B w wr ∧ w.heap.size < wr.heap.size ∧ Blk wr w.heap.size 24 #[.int .i64 nx, .slice (some ⟨g, 0, none⟩) ns.length c] ∧ NodesFrom wr g ns i ∧ WrAll B w.heap.size g ns wr ∧ Blk wr p 38 x.cells) := Lib.hid ⟨HB.out, hsz, HM.out, HN.out, hwa, HXB.out⟩
              clear HB HM HN HW HXB hwa
              go_wp2_with fail
              clear x5 hxlt hkl
              go_loopg [6] x.nr (fun n s6 wx => ∃ k : Nat, s6 = .int .i64 k ∧ n = x.nr - k ∧ k ≤ x.nr ∧ Below B w wx ∧ w.heap.size < wx.heap.size ∧ Blk wx w.heap.size 24 #[.int .i64 nx, .slice (some ⟨g, 0, none⟩) ns.length c] ∧ NodesFrom wx g ns i ∧ WrAll B w.heap.size g ns wx ∧ Blk wx p 38 x.cells)
              case atStart => exact ⟨0, rfl, rfl, Nat.zero_le _, HS.out⟩
              case round =>
                clear HS
                obtain ⟨k, rfl, rfl, hkl, hb, hsz, hmb, hnf, hwa, hxb⟩ := hrel
                have HB := Lib.hid hb; have HM := Lib.hid hmb; have HN := Lib.hid hnf; have HW := Lib.hid hwa; have HXB := Lib.hid hxb
                have x6 := hxb.cell 6
                have hxlt := hxb.lt
                simp [RN.cells] at x6
                clear hb hmb hnf hxb
                by_cases hkt : k < x.nr
                · have hkt' : (k : Int) < x.nr := by omega
                  have k0 : (0 : Int) ≤ k := by omega
                  have h := hwa x HX.out
                  clear hwa
                  obtain ⟨b, off, hA, hbB, hbT, hbg, hc⟩ := h.2.2 k hkt
                  have hc := hc 1 (by omega)
                  obtain ⟨y, hy⟩ := Option.isSome_iff_exists.1 hc.1
                  have hz := hc.2
                  (try simp only [Nat.mul_one, Nat.add_zero] at hy hz)
                  rw [hA] at x6
                  clear h hc
                  go_wp2
                  go_roundg (x.nr - (k + 1))
                  case measure => omega
                  case rel => exact ⟨k + 1, by go_num, rfl, by omega, HB.out.setCell (p := ⟨b, _, none⟩) hbB _, by simpa using hsz, HM.out.far (by show w.heap.size ≠ b; omega) _, HN.out.far (fun e => hbg e.symm) _, HW.out.set_ _ _, HXB.out.far (by show p ≠ b; omega) _⟩
                · have hkt' : ¬ (k : Int) < x.nr := by omega
                  have HS : Hid (Below B w wr ∧ w.heap.size < wr.heap.size ∧ Blk wr w.heap.size 24 #[.int .i64 nx, .slice (some ⟨g, 0, none⟩) ns.length c] ∧ NodesFrom wr g ns i ∧ WrAll B w.heap.size g ns wr ∧ Blk wr p 38 x.cells) := Lib.hid ⟨HB.out, hsz, HM.out, HN.out, hwa, HXB.out⟩
                  clear HB HM HN HW HXB hwa
                  clear hkl
                  obtain ⟨hb, hsz2, hmb, hnf, hwa, hxb⟩ := HS.out
                  obtain ⟨hcs, hfz⟩ := hnf.at_ hlt
                  have m1 := hmb.cell 1
                  have d0 := hcs 0 (by omega)
                  have z0 := hfz (i * 7)
                  have hmlt := hmb.lt
                  simp at m1
                  simp [RN.cells] at d0
                  clear hcs hfz hb hmb hnf hwa hxb
                  go_wp2
                  go_roundg (ns.length - (i + 1))
                  case measure => omega
                  case rel =>
                    obtain ⟨hb, hsz2, hmb, hnf, hwa, hxb⟩ := HS.out
                    exact ⟨i + 1, by go_num, rfl, by omega, hb.setCell (p := ⟨g, _, none⟩) hgB _, by simpa using hsz2, hmb.far (by show w.heap.size ≠ g; omega) _, hnf.next _, hwa.set_ _ _⟩
    · have hlt' : ¬ (i : Int) < ns.length := by omega
      clear HN HW hnf
      go_wp2
      go_end0
      exact ⟨rfl, HB.out⟩
end Go.Proofs.Ytmafhaadcjgcbaa
