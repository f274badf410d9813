import Derived.Test.YtpkapommekkbcaaDoorSheetN
import Derived.Test.YtpkapommekkbcaaDoorMemN
import Derived.Test.YtpkapommekkbcaaDoorACheck
set_option linter.unusedSimpArgs false
set_option linter.unusedVariables false
/- sheet.Print: a model's text, or what is wrong with it -/
namespace Go.Proofs.YtpkapommekkbcaaDoor
open Go Go.RowKit Go.Maps

/-- a builder fresh in memory -/
theorem HoldsB.fresh_blk {w : World} {B g : Nat} (hB : B ≤ g) (h : Blk w g 44 #[.pointer none, .slice none 0 0]) : HoldsB w B g [] :=
  .inl ⟨hB, .slice none 0 0, h, World.ownsRow_nil _ _ _ _, by simp [Value.ownBlock]⟩
structure SSt (m : AModel) (A : Option Addr) (c p1 p5 p8 p9 p10 mb n : Nat) (D : DataW Value) (B : Nat) (wb : World) (xs : List UInt8) (u : World) : Prop where
  env : PEnv m A c p1 p5 p8 p9 p10 mb n D u
  hold : HoldsB u B p8 xs
  far : Below B wb u
  len : xs.length ≤ 1068577
section
variable {m : AModel} {A : Option Addr} {c p1 p5 p8 p9 p10 mb n : Nat} {D : DataW Value} {B : Nat} {wb u v : World} {xs ys : List UInt8}
theorem SSt.below (hB : B ≤ wb.heap.size) (h : SSt m A c p1 p5 p8 p9 p10 mb n D B wb xs u) (hb : Below u.heap.size u v) : SSt m A c p1 p5 p8 p9 p10 mb n D B wb xs v :=
  ⟨h.env.below hb, h.hold.below hb, h.far.trans (hb.mono (Nat.le_trans hB h.far.size)), h.len⟩
theorem SSt.write (h : SSt m A c p1 p5 p8 p9 p10 mb n D B wb xs u) (hx : HoldsB v B p8 ys) (hb : Below B u v) (he : Besides p8 u v) (hl : ys.length ≤ 1068577) : SSt m A c p1 p5 p8 p9 p10 mb n D B wb ys v :=
  ⟨h.env.besides h.hold he, hx, h.far.trans hb, hl⟩
end
/-- the closures' blocks ahead of the second closure -/
structure PEnv0 (m : AModel) (A : Option Addr) (c p1 p5 p8 p9 mb n : Nat) (D : DataW Value) (B : Nat) (wb : World) (xs : List UInt8) (w : World) : Prop where
  mdl : Blk w p1 24 #[.int .i64 m.next, .slice A m.nodes.length c]
  cell : Blk w p5 40 #[.map (some mb)]
  map : w.ownsMap Tryd.prog 3 heldM mb n D
  lin : Blk w p9 53 #[.func (.func 11) #[] #[.pointer (some ⟨p8, 0, none⟩)]]
  hold : HoldsB w B p8 xs
  far : Below B wb w
section
variable {m : AModel} {A : Option Addr} {c p1 p5 p8 p9 mb n : Nat} {D : DataW Value} {B : Nat} {wb w w' : World} {xs ys : List UInt8}
theorem PEnv0.below (hB : B ≤ wb.heap.size) (h : PEnv0 m A c p1 p5 p8 p9 mb n D B wb xs w) (hb : Below w.heap.size w w') : PEnv0 m A c p1 p5 p8 p9 mb n D B wb xs w' :=
  ⟨h.mdl.below hb h.mdl.lt, h.cell.below hb h.cell.lt, map_keep h.map (hb.block mb h.map.lt), h.lin.below hb h.lin.lt, h.hold.below hb, h.far.trans (hb.mono (Nat.le_trans hB h.far.size))⟩
theorem PEnv0.write (h : PEnv0 m A c p1 p5 p8 p9 mb n D B wb xs w) (hx2 : HoldsB w' B p8 ys) (hb2 : Below B w w') (hb : Besides p8 w w') : PEnv0 m A c p1 p5 p8 p9 mb n D B wb ys w' := by
  have hx := h.hold
  refine ⟨h.mdl.besides hb (hx.ne h.mdl (by decide)) (by decide), h.cell.besides hb (hx.ne h.cell (by decide)) (by decide), map_keep h.map (hb.block mb h.map.lt ?_ ?_), h.lin.besides hb (hx.ne h.lin (by decide)) (by decide), hx2, h.far.trans hb2⟩
  · obtain ⟨es, clock, hm, _⟩ := h.map
    intro e
    subst e
    rcases hx with ⟨_, v, h2, _⟩ | ⟨_, v, h2, _⟩ <;> (rw [hm] at h2; cases h2)
  · obtain ⟨es, clock, hm, _⟩ := h.map
    intro cs fz e
    rw [hm] at e; cases e
end
theorem head_parts (m : AModel) : blanksL 0 ++ catTo [⟨#[110, 101, 120, 116, 32]⟩, byt (digs m.next.toNat)] 2 = headLn m := by
  unfold headLn catTo
  simp only [List.take_succ_cons, List.take_zero, List.flatMap_cons, List.flatMap_nil, List.append_nil, byt_list]
  rfl
theorem print_end (m : AModel) : emits (emit [] (headLn m)) (rootTo m m.nodes.length) = emits [] (docLs m) := by
  rw [rootTo_all, doc_eq]; rfl
theorem print_fit {m : AModel} (hc : CheckM m) (h : ¬ 1048576 < (emits [] (docLs m)).length) : PrintRes m (.tuple #[.string (byt (emits [] (docLs m))), .int .i64 0]) := by
  by_cases h1 : (textL m).length ≤ 1048576
  · have e : emits [] (docLs m) = textL m := emits_fit (docLs m) (B := []) h1
    rw [e]
    exact .inr (.inl ⟨hc, h1, rfl⟩)
  · exact absurd (emits_over (docLs m) (B := []) (by simpa [textL] using h1)) h
theorem print_over {m : AModel} (hc : CheckM m) (h : 1048576 < (emits [] (docLs m)).length) : PrintRes m (.tuple #[.string ⟨#[]⟩, .int .i64 3]) := by
  by_cases h1 : (textL m).length ≤ 1048576
  · have e : emits [] (docLs m) = textL m := emits_fit (docLs m) (B := []) h1
    rw [e] at h
    omega
  · exact .inr (.inr ⟨hc, by omega, rfl⟩)

set_option maxRecDepth 100000 in
set_option maxHeartbeats 8000000 in
theorem sprint_any (A : Option Addr) (c : Nat) (m : AModel) (w : World) (F : Nat → Prop) (hF : ∀ b, F b → b < w.heap.size) (h : RowOf 7 ENode w F A m.nodes) (hz : ∀ x ∈ m.nodes, NodeOK x) (hl : m.nodes.length ≤ 9223372036854775807) (hfew : ∀ x ∈ m.nodes, x.props.length + x.refs.length ≤ 600) (ht : Lib.TabBelow Tryd.prog w.heap.size w "internal/strconv.uint64pow10" .u64 Lib.pow10Tab) :
    Calls Tryd.prog 6 #[.agg #[.int .i64 m.next, .slice A m.nodes.length c]] w fun e w' => ∃ v, e = .returned v ∧ PrintRes m v ∧ Below w.heap.size w w' := by
  obtain ⟨u0, hu0⟩ : ∃ u : World, w.alloc (.cells #[.int .i64 m.next, .slice A m.nodes.length c] 24) = u := ⟨_, rfl⟩
  have MM : Hid (Mem w u0 ([.blk w.heap.size 24 #[.int .i64 m.next, .slice A m.nodes.length c]])) := Lib.hid (by rw [← hu0]; exact (Mem.start w).allocG rfl _ _)
  have HROW : Hid (∀ V, Below w.heap.size w V → RowOf 7 ENode V F A m.nodes) := Lib.hid (fun V hb => h.keep ENode.stays (Keep.below hb hF) (fun _ h => h))
  have HFV : Hid (∀ V, Below w.heap.size w V → ∀ b, F b → b < V.heap.size) := Lib.hid (fun V hb b hx => Nat.lt_of_lt_of_le (hF b hx) hb.size)
  have HC := Lib.hid (check_any A c m u0 F (HFV.out _ MM.out.below) (HROW.out _ MM.out.below) hz hl)
  have HU0 := Lib.hid hu0; have HF := Lib.hid hF; have HFEW := Lib.hid hfew; have HT := Lib.hid ht; have H7 := Lib.hid h
  clear h hz hfew hF ht hu0
  by_cases hc : CheckM m
  rotate_left 1
  · rw [checkI_no hc] at HC
    have HNC := Lib.hid hc
    clear hc
    have mc0 := (MM.out.blk 0 rfl).cell 0
    have mc1 := (MM.out.blk 0 rfl).cell 1
    have mlt := (MM.out.blk 0 rfl).lt
    simp at mc0 mc1
    go_enter Tryd.func6, Tryd.ntmps6
    go_upto_region 1 with fail
    rw [HU0.out]
    go_wp2_with fail
    refine HC.out.mono ?_
    rintro _ w2 ⟨rfl, hb⟩
    clear mc0 mc1 mlt
    have MM2 : Hid (Mem w w2 ([.blk w.heap.size 24 #[.int .i64 m.next, .slice A m.nodes.length c]])) := Lib.hid (MM.out.call hb)
    clear MM
    have MM := MM2
    clear MM2
    clear hb
    go_wp2
    refine bodyPost_ret (results_tmp2 rfl _ _ _) rfl ?_
    exact ⟨_, rfl, .inl ⟨HNC.out, rfl⟩, MM.out.below⟩
  have HCM := Lib.hid hc
  have HC2 : Hid (Calls Tryd.prog 10 #[.agg #[.int .i64 m.next, .slice A m.nodes.length c]] u0 fun e w' => e = .returned (.int .i64 0) ∧ Below u0.heap.size u0 w') := Lib.hid (by
    rw [← checkI_yes hc]; exact HC.out)
  have hn1 := hc.1.1.1; have hn2 := hc.1.1.2.1
  have hl4 : m.nodes.length ≤ 4096 := hc.1.1.2.2
  clear hc HC
  have mc0 := (MM.out.blk 0 rfl).cell 0
  have mc1 := (MM.out.blk 0 rfl).cell 1
  have mlt := (MM.out.blk 0 rfl).lt
  simp at mc0 mc1
  go_enter Tryd.func6, Tryd.ntmps6
  go_upto_region 1 with fail
  rw [HU0.out]
  clear HU0
  go_wp2_with fail
  refine HC2.out.mono ?_
  rintro _ w2 ⟨rfl, hb⟩
  clear mc0 mc1 mlt
  have MM2 : Hid (Mem w w2 ([.blk w.heap.size 24 #[.int .i64 m.next, .slice A m.nodes.length c]])) := Lib.hid (MM.out.call hb)
  clear MM
  have MM := MM2
  clear MM2
  clear hb HC2
  have hmm := @run_makeMap Tryd.prog
  obtain ⟨bm, hbm⟩ : ∃ z, w2.heap.size = z := ⟨_, rfl⟩
  obtain ⟨w3, hu⟩ : ∃ z9 : World, w2.alloc (.map #[] 0) = z9 := ⟨_, rfl⟩
  have MM2 : Hid (Mem w w3 ([.mp 3 bm 0 (.map []), .blk w.heap.size 24 #[.int .i64 m.next, .slice A m.nodes.length c]])) := Lib.hid (by rw [← hu]; exact MM.out.allocM hbm 3)
  clear MM
  have MM := MM2
  clear MM2
  have HUM := Lib.hid hu; have HBM := Lib.hid hbm
  clear hu hbm
  obtain ⟨p5, hp5⟩ : ∃ z, w3.heap.size = z := ⟨_, rfl⟩
  have HP5 : Hid (bm + 1 = p5) := Lib.hid (by rw [← hp5, ← HUM.out, ← HBM.out]; simp)
  obtain ⟨w4, hu⟩ : ∃ z9 : World, w3.alloc (.cells #[.map (some bm)] 40) = z9 := ⟨_, rfl⟩
  have MM2 : Hid (Mem w w4 ([.blk p5 40 #[.map (some bm)], .mp 3 bm 0 (.map []), .blk w.heap.size 24 #[.int .i64 m.next, .slice A m.nodes.length c]])) := Lib.hid (by rw [← hu]; exact MM.out.allocG hp5 _ _)
  clear MM
  have MM := MM2
  clear MM2
  have HU5 := Lib.hid hu
  clear hu hp5
  have mc0 := (MM.out.blk 2 rfl).cell 0
  have mc1 := (MM.out.blk 2 rfl).cell 1
  have mlt := (MM.out.blk 2 rfl).lt
  simp at mc0 mc1
  go_upto_region 5 with fail
  clear hmm
  (try rw [HUM.out])
  (try rw [HBM.out])
  (try rw [HUM.out])
  rw [HP5.out, HU5.out]
  clear HUM HBM HU5 HP5
  clear mc0 mc1 mlt
  have qc0 := (MM.out.blk 0 rfl).cell 0
  have qlt := (MM.out.blk 0 rfl).lt
  simp at qc0
  have mc0 := (MM.out.blk 2 rfl).cell 0
  have mc1 := (MM.out.blk 2 rfl).cell 1
  have mlt := (MM.out.blk 2 rfl).lt
  simp at mc0 mc1
  go_upto_region 6 with fail
  clear qc0 qlt mc0 mc1 mlt
  go_loopg [6, 7, 22] m.nodes.length (fun q s6 s7 s22 wx => ∃ (i : Nat) (D : DataW Value), s22 = .int .i64 i ∧ q = m.nodes.length - i ∧ i ≤ m.nodes.length ∧ Mem w wx ([.blk p5 40 #[.map (some bm)], .mp 3 bm i D, .blk w.heap.size 24 #[.int .i64 m.next, .slice A m.nodes.length c]]) ∧ MapV D (placesTo m i))
  case atStart => exact ⟨0, _, rfl, rfl, Nat.zero_le _, MM.out, MapV.start⟩
  case round =>
    clear MM
    obtain ⟨i, D, rfl, rfl, hin, hm, hmv⟩ := hrel
    have MM := Lib.hid hm; have HMV := Lib.hid hmv
    clear hm hmv
    have i0 : (0 : Int) ≤ i := by omega
    by_cases hlt : i < m.nodes.length
    · have hlt' : (i : Int) < m.nodes.length := by omega
      have hid := HCM.out.1.2 i hlt
      obtain ⟨b8, o8, Sp2, cp2, Sk2, ck2, Sr2, cr2, rfl, hbF, e0, e1, e2, e3, e4, e5, e6, _⟩ := node_at (HROW.out _ MM.out.below) hlt
      have HNE : Hid (MapV (D.put (kM m.nodes[i].id) (.held (.int .i64 i))) (placesTo m (i + 1))) := Lib.hid (by
        have h := HMV.out.put ((m.nodes.map ANode.id).getD i 0, .int .i64 i) (places_new HCM.out.1.srt hlt)
        rw [id_getD hlt] at h
        rw [placesTo, id_getD hlt]
        exact h)
      obtain ⟨x, hx⟩ : ∃ x, m.nodes[i] = x := ⟨_, rfl⟩
      rw [hx] at e0 e1 e2 e3 e4 e5 e6 HNE hid
      have hin2 : InI x.id := by
        have h1 := hid.1; have h2 := hid.2.1
        exact ⟨by omega, by omega⟩
      obtain ⟨qb, hqb⟩ : ∃ z, wr.heap.size = z := ⟨_, rfl⟩
      clear hx hid
      obtain ⟨x1, hu⟩ : ∃ z9 : World, wr.alloc (.cells #[.int .i64 x.id, .string x.concept, .int .i64 x.parent, .string x.role, .slice Sp2 x.props.length cp2, .slice Sk2 x.kids.length ck2, .slice Sr2 x.refs.length cr2] 37) = z9 := ⟨_, rfl⟩
      have MM2 : Hid (Mem w x1 ([.blk qb 37 #[.int .i64 x.id, .string x.concept, .int .i64 x.parent, .string x.role, .slice Sp2 x.props.length cp2, .slice Sk2 x.kids.length ck2, .slice Sr2 x.refs.length cr2], .blk p5 40 #[.map (some bm)], .mp 3 bm i D, .blk w.heap.size 24 #[.int .i64 m.next, .slice (some ⟨b8, o8, none⟩) m.nodes.length c]])) := Lib.hid (by rw [← hu]; exact MM.out.allocG hqb _ _)
      clear MM
      have MM := MM2
      clear MM2
      have HU := Lib.hid hu; have HQB := Lib.hid hqb
      clear hu hqb
      go_upto_region 8 with fail
      rw [HU.out]
      (try rw [HQB.out])
      (try rw [HU.out])
      clear HU HQB e0 e1 e2 e3 e4 e5 e6
      have nc0 := (MM.out.blk 0 rfl).cell 0
      have nlt := (MM.out.blk 0 rfl).lt
      simp at nc0
      have qc0 := (MM.out.blk 1 rfl).cell 0
      have qlt := (MM.out.blk 1 rfl).lt
      simp at qc0
      have HOM := Lib.hid (MM.out.map 2 rfl)
      go_wp2_with (at_mapUpdate; refine wpList_mapUpdate_own _ rfl _ _ _ 40 rfl 3 3 lawM Tryd.underlying40 heldM bm i D rfl HOM.out (by unfold maxLen; omega) _ _ _ rfl rfl (keyM hin2) _ [] rfl ?_)
      intro w9 hown3 hg3
      clear nc0 nlt qc0 qlt
      have MM2 : Hid (Mem w w9 ([.blk qb 37 #[.int .i64 x.id, .string x.concept, .int .i64 x.parent, .string x.role, .slice Sp2 x.props.length cp2, .slice Sk2 x.kids.length ck2, .slice Sr2 x.refs.length cr2], .blk p5 40 #[.map (some bm)], .mp 3 bm (i + 1) (D.put (kM x.id) (.held (.int .i64 i))), .blk w.heap.size 24 #[.int .i64 m.next, .slice (some ⟨b8, o8, none⟩) m.nodes.length c]])) := Lib.hid (MM.out.put 2 rfl hg3 hown3)
      clear MM
      have MM := MM2
      clear MM2
      clear hown3 hg3 HOM hin2
      have MM2 : Hid (Mem w w9 ([.blk p5 40 #[.map (some bm)], .mp 3 bm (i + 1) (D.put (kM x.id) (.held (.int .i64 i))), .blk w.heap.size 24 #[.int .i64 m.next, .slice (some ⟨b8, o8, none⟩) m.nodes.length c]])) := Lib.hid (Mem.pick0 MM.out [1, 2, 3] [.blk p5 40 #[.map (some bm)], .mp 3 bm (i + 1) (D.put (kM x.id) (.held (.int .i64 i))), .blk w.heap.size 24 #[.int .i64 m.next, .slice (some ⟨b8, o8, none⟩) m.nodes.length c]] (by decide) rfl)
      clear MM
      have MM := MM2
      clear MM2
      go_wp2_with fail
      go_roundg (m.nodes.length - (i + 1))
      case measure => omega
      case rel => exact ⟨i + 1, _, by go_num, rfl, by omega, MM.out, HNE.out⟩
    have hlt' : ¬ (i : Int) < m.nodes.length := by omega
    obtain rfl : i = m.nodes.length := by omega
    obtain ⟨p8, hp8⟩ : ∃ z, wr.heap.size = z := ⟨_, rfl⟩
    obtain ⟨x2, hu⟩ : ∃ z9 : World, wr.alloc (.cells #[.pointer none, .slice none 0 0] 44) = z9 := ⟨_, rfl⟩
    have MM2 : Hid (Mem w x2 ([.blk p8 44 #[.pointer none, .slice none 0 0], .blk p5 40 #[.map (some bm)], .mp 3 bm m.nodes.length D, .blk w.heap.size 24 #[.int .i64 m.next, .slice A m.nodes.length c]])) := Lib.hid (by rw [← hu]; exact MM.out.allocG hp8 _ _)
    clear MM
    have MM := MM2
    clear MM2
    have HU8 := Lib.hid hu; have HP8 := Lib.hid hp8
    clear hu hp8
    obtain ⟨p9, hp9⟩ : ∃ z, x2.heap.size = z := ⟨_, rfl⟩
    have HP9 : Hid (p8 + 1 = p9) := Lib.hid (by rw [← hp9, ← HU8.out, ← HP8.out]; simp)
    obtain ⟨x4, hu⟩ : ∃ z9 : World, x2.alloc (.cells #[.func (.func 11) #[] #[.pointer (some ⟨p8, 0, none⟩)]] 53) = z9 := ⟨_, rfl⟩
    have MM2 : Hid (Mem w x4 ([.blk p9 53 #[.func (.func 11) #[] #[.pointer (some ⟨p8, 0, none⟩)]], .blk p8 44 #[.pointer none, .slice none 0 0], .blk p5 40 #[.map (some bm)], .mp 3 bm m.nodes.length D, .blk w.heap.size 24 #[.int .i64 m.next, .slice A m.nodes.length c]])) := Lib.hid (by rw [← hu]; exact MM.out.allocG hp9 _ _)
    clear MM
    have MM := MM2
    clear MM2
    have HU9 := Lib.hid hu
    clear hu hp9
    go_upto_region 12 with fail
    (try rw [HU8.out])
    (try rw [HP8.out])
    (try rw [HU8.out])
    rw [HP9.out, HU9.out]
    clear HU8 HP8 HU9 HP9
    obtain ⟨N, hN⟩ : ∃ N : List UInt8 → World → Prop, N = fun ys u => PEnv0 m A c w.heap.size p5 p8 p9 bm m.nodes.length D w.heap.size w ys u := ⟨_, rfl⟩
    have HNO : Hid (∀ ys u, N ys u → PEnv0 m A c w.heap.size p5 p8 p9 bm m.nodes.length D w.heap.size w ys u) := Lib.hid (fun ys u h => by rw [hN] at h; exact h)
    have HNI : Hid (∀ ys u, PEnv0 m A c w.heap.size p5 p8 p9 bm m.nodes.length D w.heap.size w ys u → N ys u) := Lib.hid (fun ys u h => by rw [hN]; exact h)
    have HNB : Hid (∀ ys u v, N ys u → Below u.heap.size u v → N ys v) := Lib.hid (fun ys u v h hb => HNI.out _ _ ((HNO.out _ _ h).below (Nat.le_refl _) hb))
    have HNW : Hid (∀ ys zs u v, N ys u → HoldsB v w.heap.size p8 zs → Below w.heap.size u v → Besides p8 u v → N zs v) := Lib.hid (fun ys zs u v h h1 h2 h3 => HNI.out _ _ ((HNO.out _ _ h).write h1 h2 h3))
    have HNS : Hid (∀ ys u, N ys u → w.heap.size ≤ u.heap.size) := Lib.hid (fun ys u h => (HNO.out _ _ h).far.size)
    have HNL := Lib.hid (MM.out.lt (i := 1) rfl rfl)
    have NS : Hid (N [] x4) := Lib.hid (HNI.out _ _ ⟨MM.out.blk 4 rfl, MM.out.blk 2 rfl, MM.out.map 3 rfl, MM.out.blk 0 rfl, HoldsB.fresh_blk HNL.out.1 (MM.out.blk 1 rfl), MM.out.below⟩)
    clear MM hN HNL
    have HSHW : Hid (∀ ys u, N ys u → Calls Tryd.prog 16 #[.int .i64 m.next] u fun e w' => e = .returned (.string (byt (digs m.next.toNat))) ∧ Below u.heap.size u w') := Lib.hid (fun ys u h => nshow_any m.next hn1 (by omega) w.heap.size u (HT.out.on (HNO.out _ _ h).far))
    have HHP := Lib.hid (head_parts m)
    have HQS : Hid (∀ zs V, N zs V → V.cell? ⟨p9, 0, none⟩ = some (.func (.func 11) #[] #[.pointer (some ⟨p8, 0, none⟩)]) ∧ V.cell? ⟨w.heap.size, 0, none⟩ = some (.int .i64 m.next)) := Lib.hid (fun zs V h => by
      have a := (HNO.out _ _ h).lin.cell 0
      have b := (HNO.out _ _ h).mdl.cell 0
      simp at a b
      exact ⟨a, b⟩)
    obtain ⟨ud, hu⟩ : ∃ z : World, x4.drew = z := ⟨_, rfl⟩
    have hb : Below x4.heap.size x4 ud := by rw [← hu]; exact (Below.refl _ _).drew
    have NS2 := Lib.hid (HNB.out _ _ _ NS.out hb)
    clear NS
    have NS := NS2
    clear NS2 hb
    have HQ0 := HQS.out _ _ NS.out
    refine wp_region_S (S := (fun w' : World => w'.cell? ⟨p9, 0, none⟩ = some (.func (.func 11) #[] #[.pointer (some ⟨p8, 0, none⟩)]) ∧ w'.cell? ⟨w.heap.size, 0, none⟩ = some (.int .i64 m.next))) (by kernel_rfl) (by rw [hu]; exact HQ0) (fun hHeld => ?_)
    rw [hu] at hHeld ⊢
    clear hu
    refine wpAnyS_take (i := 0) (v := ?_) rfl (by kernel_rfl) (by kernel_rfl) (by kernel_rfl) (fun _ _ _ h => h) (Or.inl ⟨by rfl, ?_⟩) (by assumption) ?_
    rotate_left 1
    · (intro w' hSw; obtain ⟨s0, s1⟩ := hSw; go_simp); try with_reducible rfl
    try simp only [Act.put, List.setIfInBounds_toArray, List.set_cons_zero, List.set_cons_succ, Nat.zero_add]
    refine wpAnyS_take (i := 1) (v := ?_) rfl (by kernel_rfl) (by kernel_rfl) (by kernel_rfl) (fun _ _ _ h => h) (Or.inl ⟨by rfl, ?_⟩) (by assumption) ?_
    rotate_left 1
    · (intro w' hSw; obtain ⟨s0, s1⟩ := hSw; go_simp); try with_reducible rfl
    try simp only [Act.put, List.setIfInBounds_toArray, List.set_cons_zero, List.set_cons_succ, Nat.zero_add]
    refine wpAnyS_take (i := 2) (v := ?_) rfl (by kernel_rfl) (by kernel_rfl) (by kernel_rfl) (fun _ _ _ h => h) (Or.inl ⟨by rfl, ?_⟩) (by assumption) ?_
    rotate_left 1
    · (intro w' hSw; obtain ⟨s0, s1⟩ := hSw; go_simp); try with_reducible rfl
    try simp only [Act.put, List.setIfInBounds_toArray, List.set_cons_zero, List.set_cons_succ, Nat.zero_add]
    refine wpAnyS_one (i := 3) rfl (by kernel_rfl) (fun K hK => ?_)
    go_simp
    refine (HSHW.out _ _ NS.out).mono ?_
    rintro _ v1 ⟨rfl, hb⟩
    have NS2 := Lib.hid (HNB.out _ _ _ NS.out hb)
    clear NS
    have NS := NS2
    clear NS2 hb
    have HQ1 := HQS.out _ _ NS.out
    go_simp
    refine hK.out _ _ HQ1 ?_
    clear hK K
    try simp only [Act.put, List.setIfInBounds_toArray, List.set_cons_zero, List.set_cons_succ, Nat.zero_add]
    refine wpAnyS_one (i := 4) rfl (by kernel_rfl) (fun K hK => ?_)
    go_simp
    obtain ⟨g, hg⟩ : ∃ q, v1.heap.size = q := ⟨_, rfl⟩
    obtain ⟨v2, hnw⟩ : ∃ z : World, v1.alloc (.cells #[.string ⟨#[110, 101, 120, 116, 32]⟩, .string (byt (digs m.next.toNat))] 9) = z := ⟨_, rfl⟩
    have hb : Below v1.heap.size v1 v2 := by rw [← hnw]; exact (Below.refl _ _).alloc (Nat.le_refl _) _
    have HK8 : Hid (Blk v2 g 9 #[.string ⟨#[110, 101, 120, 116, 32]⟩, .string (byt (digs m.next.toNat))]) := Lib.hid (by rw [← hnw]; exact Blk.new' hg.symm)
    have NS2 := Lib.hid (HNB.out _ _ _ NS.out hb)
    clear NS
    have NS := NS2
    clear NS2 hb
    have HQ2 := HQS.out _ _ NS.out
    rw [hnw]
    try rw [hg]
    clear hnw hg
    refine hK.out _ _ HQ2 ?_
    clear hK K
    try simp only [Act.put, List.setIfInBounds_toArray, List.set_cons_zero, List.set_cons_succ, Nat.zero_add]
    refine wpAnyS_one (i := 5) rfl (by kernel_rfl) (fun K hK => ?_)
    have HDL : Hid ((digs m.next.toNat).length ≤ 10) := Lib.hid (digs_len 9 m.next.toNat (by omega))
    have HLC := Lib.hid (line_any w.heap.size p8 g 0 [] [⟨#[110, 101, 120, 116, 32]⟩, byt (digs m.next.toNat)] v2 (HNO.out _ _ NS.out).hold HK8.out (by omega) (by simp) (by
      have h := congrArg List.length HHP.out
      rw [List.length_append] at h
      have h2 : (headLn m).length ≤ 15 := by
        unfold headLn
        have := HDL.out
        simp only [List.length_append, List.length_cons, List.length_nil]; omega
      have h3 : (catTo [⟨#[110, 101, 120, 116, 32]⟩, byt (digs m.next.toNat)] 2).length ≤ 15 := by omega
      exact Nat.le_trans h3 (by decide)) (by simp) (HNS.out _ _ NS.out))
    rw [show ([⟨#[110, 101, 120, 116, 32]⟩, byt (digs m.next.toNat)] : List ByteArray).length = 2 from rfl, HHP.out, show ((0 : Nat) : Int) = 0 from rfl] at HLC
    go_simp
    refine HLC.out.mono ?_
    rintro _ v3 ⟨rfl, hx3, hb3, he3⟩
    have NS3 := Lib.hid (HNW.out _ _ _ _ NS.out hx3 hb3 he3)
    clear hx3 hb3 he3 NS HLC HK8
    have NS := NS3
    clear NS3
    have HQ3 := HQS.out _ _ NS.out
    go_simp
    refine hK.out _ _ HQ3 ?_
    clear hK K
    try simp only [Act.put, List.setIfInBounds_toArray, List.set_cons_zero, List.set_cons_succ, Nat.zero_add]
    refine wpAnyS_done (by kernel_rfl) ?_ _
    clear HQS HQ0 HQ1 HQ2 HQ3
    have HHD : Hid ((emit [] (headLn m)).length ≤ 1068577) := Lib.hid (emit_len (by simp) (by
      have := HDL.out
      unfold headLn
      simp only [List.length_append, List.length_cons, List.length_nil]; omega))
    obtain ⟨p10, hp10⟩ : ∃ z, v3.heap.size = z := ⟨_, rfl⟩
    obtain ⟨v5, hv5⟩ : ∃ z : World, v3.alloc (.cells #[.func (.func 17) #[] #[.pointer (some ⟨p9, 0, none⟩), .pointer (some ⟨p10, 0, none⟩), .pointer (some ⟨w.heap.size, 0, none⟩), .pointer (some ⟨p5, 0, none⟩)]] 55) = z := ⟨_, rfl⟩
    have hb : Below v3.heap.size v3 v5 := by rw [← hv5]; exact (Below.refl _ _).alloc (Nat.le_refl _) _
    have HB11 : Hid (Blk v5 p10 55 #[.func (.func 17) #[] #[.pointer (some ⟨p9, 0, none⟩), .pointer (some ⟨p10, 0, none⟩), .pointer (some ⟨w.heap.size, 0, none⟩), .pointer (some ⟨p5, 0, none⟩)]]) := Lib.hid (by rw [← hv5]; exact Blk.new' hp10.symm)
    have NS2 := Lib.hid (HNB.out _ _ _ NS.out hb)
    clear NS
    have NS := NS2
    clear NS2 hb
    obtain ⟨M, hM⟩ : ∃ N : List UInt8 → World → Prop, N = fun ys u => SSt m A c w.heap.size p5 p8 p9 p10 bm m.nodes.length D w.heap.size w ys u := ⟨_, rfl⟩
    have HMO : Hid (∀ ys u, M ys u → SSt m A c w.heap.size p5 p8 p9 p10 bm m.nodes.length D w.heap.size w ys u) := Lib.hid (fun ys u h => by rw [hM] at h; exact h)
    have HMI : Hid (∀ ys u, SSt m A c w.heap.size p5 p8 p9 p10 bm m.nodes.length D w.heap.size w ys u → M ys u) := Lib.hid (fun ys u h => by rw [hM]; exact h)
    have HMB : Hid (∀ ys u v, M ys u → Below u.heap.size u v → M ys v) := Lib.hid (fun ys u v h hb => HMI.out _ _ ((HMO.out _ _ h).below (Nat.le_refl _) hb))
    have HMW : Hid (∀ ys zs u v, M ys u → HoldsB v w.heap.size p8 zs → Below w.heap.size u v → Besides p8 u v → zs.length ≤ 1068577 → M zs v) := Lib.hid (fun ys zs u v h h1 h2 h3 h4 => HMI.out _ _ ((HMO.out _ _ h).write h1 h2 h3 h4))
    have MS : Hid (M (emit [] (headLn m)) v5) := Lib.hid (HMI.out _ _ ⟨⟨(HNO.out _ _ NS.out).mdl, (HNO.out _ _ NS.out).cell, (HNO.out _ _ NS.out).map, (HNO.out _ _ NS.out).lin, HB11.out⟩, (HNO.out _ _ NS.out).hold, (HNO.out _ _ NS.out).far, HHD.out⟩)
    have HMC : Hid (∀ ys u, M ys u → u.cell? ⟨w.heap.size, 0, none⟩ = some (.int .i64 m.next) ∧ u.cell? ⟨w.heap.size, 1, none⟩ = some (.slice A m.nodes.length c) ∧ u.cell? ⟨p10, 0, none⟩ = some (.func (.func 17) #[] #[.pointer (some ⟨p9, 0, none⟩), .pointer (some ⟨p10, 0, none⟩), .pointer (some ⟨w.heap.size, 0, none⟩), .pointer (some ⟨p5, 0, none⟩)])) := Lib.hid (fun ys u h => by
      have a := (HMO.out _ _ h).env.mdl.cell 0; have b := (HMO.out _ _ h).env.mdl.cell 1; have d := (HMO.out _ _ h).env.nod.cell 0
      simp at a b d
      exact ⟨a, b, d⟩)
    have HU10 := Lib.hid hp10; have HV5 := Lib.hid hv5
    have HPE := Lib.hid (print_end m)
    obtain ⟨m0, m1, m2⟩ := HMC.out _ _ MS.out
    clear hp10 hv5 hM HB11 NS HHD HDL HNI HNO HNB HNW HNS HSHW HHP
    go_upto_region 15 with fail
    (try rw [HV5.out])
    (try rw [HU10.out])
    (try rw [HV5.out])
    clear HU10 HV5
    go_upto_region 16 with fail
    clear m0 m1 m2
    obtain ⟨E0, hE0⟩ : ∃ E, emit [] (headLn m) = E := ⟨_, rfl⟩
    rw [hE0] at MS HPE
    clear hE0 hlt
    go_loopg [12, 43] m.nodes.length (fun q s12 s43 wx => ∃ j : Nat, s43 = .int .i64 j ∧ q = m.nodes.length - j ∧ j ≤ m.nodes.length ∧ M (emits E0 (rootTo m j)) wx)
    case atStart => exact ⟨0, rfl, rfl, Nat.zero_le _, MS.out⟩
    case round =>
      clear MS
      obtain ⟨j, rfl, rfl, hj, hms⟩ := hrel
      have MS := Lib.hid hms
      clear hms
      have j0 : (0 : Int) ≤ j := by omega
      obtain ⟨m0, m1, m2⟩ := HMC.out _ _ MS.out
      by_cases hlt : j < m.nodes.length
      · have hlt' : (j : Int) < m.nodes.length := by omega
        obtain ⟨b8, o8, Sp2, cp2, Sk2, ck2, Sr2, cr2, rfl, hbF, e0, e1, e2, e3, e4, e5, e6, ⟨_, _, hp9⟩, ⟨_, _, hk9⟩, ⟨_, _, hr9⟩⟩ := node_at H7.out hlt
        have hB8 := HF.out _ hbF
        have hf := (HMO.out _ _ MS.out).far
        have d0 := (hf.cell (p := ⟨b8, _, none⟩) hB8).trans e0; have d1 := (hf.cell (p := ⟨b8, _, none⟩) hB8).trans e1; have d2 := (hf.cell (p := ⟨b8, _, none⟩) hB8).trans e2; have d3 := (hf.cell (p := ⟨b8, _, none⟩) hB8).trans e3; have d4 := (hf.cell (p := ⟨b8, _, none⟩) hB8).trans e4; have d5 := (hf.cell (p := ⟨b8, _, none⟩) hB8).trans e5; have d6 := (hf.cell (p := ⟨b8, _, none⟩) hB8).trans e6
        clear e0 e1 e2 e3 e4 e5 e6 hf hbF hB8
        have HXM : Hid (m.nodes[j] ∈ m.nodes) := Lib.hid (List.getElem_mem hlt)
        have HYES : Hid (m.nodes[j].parent = 0 → rootTo m (j + 1) = rootTo m j ++ downLs m m.nodes[j].id) := Lib.hid (rootTo_yes hlt)
        have HNO1 : Hid (m.nodes[j].parent ≠ 0 → rootTo m (j + 1) = rootTo m j) := Lib.hid (rootTo_no hlt)
        obtain ⟨x, hx⟩ : ∃ x, m.nodes[j] = x := ⟨_, rfl⟩
        rw [hx] at d0 d1 d2 d3 d4 d5 d6 hp9 hk9 hr9 HXM HYES HNO1
        obtain ⟨R, hR⟩ : ∃ R, rootTo m j = R := ⟨_, rfl⟩
        rw [hR] at MS HYES HNO1
        obtain ⟨qb, hqb⟩ : ∃ q, wr.heap.size = q := ⟨_, rfl⟩
        obtain ⟨u1, hu1⟩ : ∃ u : World, wr.alloc (.cells #[.int .i64 x.id, .string x.concept, .int .i64 x.parent, .string x.role, .slice Sp2 x.props.length cp2, .slice Sk2 x.kids.length ck2, .slice Sr2 x.refs.length cr2] 37) = u := ⟨_, rfl⟩
        have hb : Below wr.heap.size wr u1 := by rw [← hu1]; exact (Below.refl _ _).alloc (Nat.le_refl _) _
        have HKQ : Hid (Blk u1 qb 37 #[.int .i64 x.id, .string x.concept, .int .i64 x.parent, .string x.role, .slice Sp2 x.props.length cp2, .slice Sk2 x.kids.length ck2, .slice Sr2 x.refs.length cr2]) := Lib.hid (by rw [← hu1]; exact Blk.new' hqb.symm)
        have MS2 := Lib.hid (HMB.out _ _ _ MS.out hb)
        have HU1 := Lib.hid hu1; have HQB := Lib.hid hqb
        have HP9 := Lib.hid hp9; have HK9 := Lib.hid hk9; have HR9 := Lib.hid hr9
        clear hx hR hqb hu1 hb hp9 hk9 hr9
        go_upto_region 18 with fail
        rw [HU1.out]
        (try rw [HQB.out])
        (try rw [HU1.out])
        clear HU1 HQB d0 d1 d2 d3 d4 d5 d6 MS m0 m1 m2
        have MS := MS2
        clear MS2
        obtain ⟨m0, m1, m2⟩ := HMC.out _ _ MS.out
        have k0 := HKQ.out.cell 0; have k1 := HKQ.out.cell 1; have k2 := HKQ.out.cell 2; have k3 := HKQ.out.cell 3; have k4 := HKQ.out.cell 4; have k5 := HKQ.out.cell 5; have k6 := HKQ.out.cell 6
        simp at k0 k1 k2 k3 k4 k5 k6
        by_cases hroot : x.parent = 0
        · have HD1 : Hid (Dep m 1 x.id) := Lib.hid (Dep.root x HXM.out hroot)
          have HCALL := Lib.hid (pnode_any m _ c w.heap.size p5 p8 p9 p10 bm m.nodes.length D HCM.out HMV.out w.heap.size w (Nat.le_refl _) F HF.out H7.out HT.out HFEW.out 64 x HXM.out 1 HD1.out (by omega) Sp2 cp2 Sk2 ck2 Sr2 cr2 u1 _ (HMO.out _ _ MS.out).far (HMO.out _ _ MS.out).env (HMO.out _ _ MS.out).hold (HMO.out _ _ MS.out).len HP9.out HK9.out HR9.out)
          rw [show ((1 - 1 : Nat) : Int) = 0 from rfl] at HCALL
          have HDN := Lib.hid (down_fit m HCM.out HXM.out)
          rw [hroot] at k2
          have HRT := Lib.hid (HYES.out hroot)
          have hq : Hid (x.parent = 0) := Lib.hid hroot
          rw [hroot] at HCALL
          clear HYES HNO1 hroot HKQ
          go_wp2_with fail
          refine HCALL.out.mono ?_
          rintro _ v9 ⟨rfl, hx3, hb3, he3⟩
          have NS3 := Lib.hid (HMW.out _ _ _ _ MS.out hx3 hb3 he3 (emits_len (HMO.out _ _ MS.out).len HDN.out))
          clear hx3 hb3 he3 MS HCALL k0 k1 k2 k3 k4 k5 k6 m0 m1 m2
          go_wp2_with fail
          go_roundg (m.nodes.length - (j + 1))
          case measure => omega
          case rel => exact ⟨j + 1, by go_num, rfl, by omega, by rw [HRT.out, emits_app]; exact NS3.out⟩
        have HRT := Lib.hid (HNO1.out hroot)
        clear HYES HNO1 HKQ
        go_wp2_with fail
        go_roundg (m.nodes.length - (j + 1))
        case measure => omega
        case rel => exact ⟨j + 1, by go_num, rfl, by omega, by rw [HRT.out]; exact MS.out⟩
      obtain rfl : j = m.nodes.length := by omega
      have hlt' : ¬ (m.nodes.length : Int) < m.nodes.length := by omega
      rw [HPE.out] at MS
      obtain ⟨T, hT⟩ : ∃ T, emits [] (docLs m) = T := ⟨_, rfl⟩
      have HT1 : Hid (¬ 1048576 < T.length → PrintRes m (.tuple #[.string (byt T), .int .i64 0])) := Lib.hid (fun h => by rw [← hT] at h ⊢; exact print_fit HCM.out h)
      have HT2 : Hid (1048576 < T.length → PrintRes m (.tuple #[.string ⟨#[]⟩, .int .i64 3])) := Lib.hid (fun h => by rw [← hT] at h; exact print_over HCM.out h)
      rw [hT] at MS
      have hlen0 := Tryd.Builder_Len w.heap.size p8 (Lib.byteCells T) wr (HMO.out _ _ MS.out).hold
      rw [Lib.byteCells_length] at hlen0
      have HLEN : Hid (Calls Tryd.prog 12 #[.pointer (some ⟨p8, 0, none⟩)] wr fun e w' => e = .returned (.int .i64 T.length) ∧ wr = w') := Lib.hid (hlen0.mono fun _ _ ⟨h1, h2⟩ => ⟨h1, h2.symm⟩)
      have HSTR := Lib.hid (Tryd.Builder_String_any w.heap.size p8 T wr (HMO.out _ _ MS.out).hold (HMO.out _ _ MS.out).far.size)
      clear hT hlen0 m0 m1 m2 hlt HPE
      by_cases hov : 1048576 < T.length
      · have hov' : (1048576 : Int) < T.length := by omega
        have HR := Lib.hid (HT2.out hov)
        clear HT1 HT2 hov
        go_upto_region 21 with fail
        go_wp2_with fail
        refine HLEN.out.mono ?_
        rintro _ v9 ⟨rfl, rfl⟩
        go_wp2_with fail
        refine bodyPost_ret (results_tmp2 rfl _ _ _) rfl ?_
        exact ⟨_, rfl, HR.out, (HMO.out _ _ MS.out).far⟩
      · have hov' : ¬ (1048576 : Int) < T.length := by omega
        have HR := Lib.hid (HT1.out hov)
        clear HT1 HT2 hov
        go_upto_region 21 with fail
        go_wp2_with fail
        refine HLEN.out.mono ?_
        rintro _ v9 ⟨rfl, rfl⟩
        go_wp2_with fail
        refine HSTR.out.mono ?_
        rintro _ v8 ⟨rfl, hb⟩
        have HB := Lib.hid ((HMO.out _ _ MS.out).far.trans hb)
        clear hb
        go_wp2_with fail
        refine bodyPost_ret (results_tmp2 rfl _ _ _) rfl ?_
        exact ⟨_, rfl, HR.out, HB.out⟩
end Go.Proofs.YtpkapommekkbcaaDoor
