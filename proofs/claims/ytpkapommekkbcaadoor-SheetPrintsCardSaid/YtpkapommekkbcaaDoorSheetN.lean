import Derived.Test.YtpkapommekkbcaaDoorSheetE
import Derived.Test.YtpkapommekkbcaaDoorQuote
import Derived.Test.YtpkapommekkbcaaDoorRegS
import Derived.Test.YtpkapommekkbcaaDoorAFindR
set_option linter.unusedSimpArgs false
set_option linter.unusedVariables false
/- sheet.Print$2: a node's lines, and those of what is below it -/
namespace Go.Proofs.YtpkapommekkbcaaDoor
open Go Go.RowKit Go.Maps

structure NSt (m : AModel) (A : Option Addr) (c p1 p5 p8 p9 p10 mb n : Nat) (D : DataW Value) (B : Nat) (wb w0 : World) (pb : Nat) (cs : Array Value) (xs : List UInt8) (u : World) : Prop where
  env : PEnv m A c p1 p5 p8 p9 p10 mb n D u
  hold : HoldsB u B p8 xs
  far : Below B wb u
  near : Below B w0 u
  bes : Besides p8 w0 u
  node : Blk u pb 37 cs
  len : xs.length ≤ 1068577
section
variable {m : AModel} {A : Option Addr} {c p1 p5 p8 p9 p10 mb n : Nat} {D : DataW Value} {B : Nat} {wb w0 u v : World} {pb : Nat} {cs : Array Value} {xs ys : List UInt8}
theorem NSt.below (hB : B ≤ wb.heap.size) (h : NSt m A c p1 p5 p8 p9 p10 mb n D B wb w0 pb cs xs u) (hb : Below u.heap.size u v) : NSt m A c p1 p5 p8 p9 p10 mb n D B wb w0 pb cs xs v :=
  ⟨h.env.below hb, h.hold.below hb, h.far.trans (hb.mono (Nat.le_trans hB h.far.size)), h.near.trans (hb.mono (Nat.le_trans hB h.far.size)), h.bes.trans (Besides.of_below hb), h.node.below hb h.node.lt, h.len⟩
theorem NSt.write (h : NSt m A c p1 p5 p8 p9 p10 mb n D B wb w0 pb cs xs u) (hx : HoldsB v B p8 ys) (hb : Below B u v) (he : Besides p8 u v) (hl : ys.length ≤ 1068577) : NSt m A c p1 p5 p8 p9 p10 mb n D B wb w0 pb cs ys v :=
  ⟨h.env.besides h.hold he, hx, h.far.trans hb, h.near.trans hb, h.bes.trans he, h.node.besides he (h.hold.ne h.node (by decide)) (by decide), hl⟩
end
theorem emit_len {xs l : List UInt8} (h : xs.length ≤ 1068577) (hl : l.length ≤ 20000) : (emit xs l).length ≤ 1068577 := by
  unfold emit
  split
  · exact h
  · simp only [List.length_append, List.length_cons, List.length_nil]; omega
theorem emits_len {ls : List (List UInt8)} {xs : List UInt8} (h : xs.length ≤ 1068577) (hl : ∀ l ∈ ls, l.length ≤ 20000) : (emits xs ls).length ≤ 1068577 := emits_size ls hl h
theorem parts_line (x : ANode) (d : Nat) : blanksL (d - 1) ++ catTo [byt (digs x.id.toNat), ⟨#[32]⟩, byt (roleL x d), x.concept] 4 = lineN x d := by
  unfold lineN catTo
  simp only [List.take_succ_cons, List.take_zero, List.flatMap_cons, List.flatMap_nil, List.append_nil, byt_list]
theorem parts_prop (p : AProp) (d : Nat) : blanksL d ++ catTo [⟨#[46]⟩, p.name, ⟨#[61]⟩, byt (quoteL p.value.data.toList)] 4 = lineP d p := by
  unfold lineP catTo
  simp only [List.take_succ_cons, List.take_zero, List.flatMap_cons, List.flatMap_nil, List.append_nil, byt_list]
theorem parts_ref (r : ARef) (d : Nat) : blanksL d ++ catTo [⟨#[62]⟩, r.role, ⟨#[61]⟩, byt (digs r.target.toNat)] 4 = lineR d r := by
  unfold lineR catTo
  simp only [List.take_succ_cons, List.take_zero, List.flatMap_cons, List.flatMap_nil, List.append_nil, byt_list]
theorem role_yes (x : ANode) {d : Nat} (h : 1 < d) : x.role ++ ⟨#[32]⟩ = byt (roleL x d) := by
  unfold roleL
  rw [if_pos h, ← byt_app, byt_of]
  rfl
theorem role_no (x : ANode) {d : Nat} (h : ¬ 1 < d) : x.role = byt (roleL x d) := by
  unfold roleL
  rw [if_neg h, List.append_nil, byt_of]
theorem node_emits (m : AModel) (x : ANode) (d : Nat) (xs : List UInt8) (hc : CheckM m) (hx : x ∈ m.nodes) (hd : Dep m d x.id) :
    emits (emits (emits (emit xs (lineN x d)) (x.props.map (lineP d))) (x.refs.map (lineR d))) (x.kids.flatMap (downLs m)) = emits xs (downLs m x.id) := by
  rw [down_eq hc hx hd]
  unfold nodeLs
  rw [emits_app]
  show _ = emits (emits (emit xs (lineN x d)) (x.props.map (lineP d) ++ x.refs.map (lineR d))) (x.kids.flatMap (downLs m))
  rw [emits_app]
theorem down_fit (m : AModel) (hc : CheckM m) {x : ANode} (hx : x ∈ m.nodes) : ∀ l ∈ downLs m x.id, l.length ≤ 20000 := by
  intro l hl
  unfold downLs at hl
  obtain ⟨k, hk, hl⟩ := List.mem_flatMap.1 hl
  have key : ∃ y ∈ m.nodes, y.id = k := by
    rcases List.mem_cons.1 hk with rfl | hk
    · exact ⟨x, hx, rfl⟩
    · exact hc.tree.below_node x hx k hk
  obtain ⟨y, hy, rfl⟩ := key
  obtain ⟨d, hd, _, hd2⟩ := dep_any hc hy
  rw [nodeAt_eq hc hy hd] at hl
  exact fit_len (fit_of hc hy) hd2 l hl

set_option maxRecDepth 100000 in
set_option maxHeartbeats 8000000 in
theorem pnode_any (m : AModel) (A : Option Addr) (c p1 p5 p8 p9 p10 mb n : Nat) (D : DataW Value) (hc : CheckM m) (hM : MapV D (placesTo m m.nodes.length)) (B : Nat) (wb : World) (hB : B ≤ wb.heap.size) (F : Nat → Prop) (hF : ∀ b, F b → b < B) (hrow : RowOf 7 ENode wb F A m.nodes) (ht : Lib.TabBelow Tryd.prog B wb "internal/strconv.uint64pow10" .u64 Lib.pow10Tab) (hfew : ∀ x ∈ m.nodes, x.props.length + x.refs.length ≤ 600) :
    ∀ (k : Nat) (x : ANode), x ∈ m.nodes → ∀ d, Dep m d x.id → 64 - d < k → ∀ (Sp : Option Addr) (cp : Nat) (Sk : Option Addr) (ck : Nat) (Sr : Option Addr) (cr : Nat) (w : World) (xs : List UInt8),
      Below B wb w → PEnv m A c p1 p5 p8 p9 p10 mb n D w → HoldsB w B p8 xs → xs.length ≤ 1068577 → RowOf 2 EProp wb F Sp x.props → RowOf 1 EInt wb F Sk x.kids → RowOf 2 ERef wb F Sr x.refs →
      Calls Tryd.prog 17 #[.agg #[.int .i64 x.id, .string x.concept, .int .i64 x.parent, .string x.role, .slice Sp x.props.length cp, .slice Sk x.kids.length ck, .slice Sr x.refs.length cr], .int .i64 (d - 1 : Nat), .pointer (some ⟨p9, 0, none⟩), .pointer (some ⟨p10, 0, none⟩), .pointer (some ⟨p1, 0, none⟩), .pointer (some ⟨p5, 0, none⟩)] w
        fun e w' => e = .returned (.tuple #[]) ∧ HoldsB w' B p8 (emits xs (downLs m x.id)) ∧ Below B w w' ∧ Besides p8 w w' := by
  intro k
  induction k with
  | zero =>
    intro x hx d hd hk
    exact absurd hk (Nat.not_lt_zero _)
  | succ k ih =>
    intro x hx d hd hk Sp cp Sk ck Sr cr w xs hfar henv hhold hxl hsp hsk hsr
    obtain ⟨hd1, hd2⟩ : 1 ≤ d ∧ d ≤ 64 := by
      obtain ⟨e, he, h1, h2⟩ := dep_any hc hx
      rw [hd.uniq hc.1.2 he]; exact ⟨h1, h2⟩
    have hFIT := fit_of hc hx
    have hi1 := hFIT.id1; have hi2 := hFIT.id2; have hcs := hFIT.con; have hrs := hFIT.rol
    have HFIT := Lib.hid hFIT
    have hp6 : x.props.length ≤ 600 := by have := hfew x hx; omega
    have hr6 : x.refs.length ≤ 600 := by have := hfew x hx; omega
    have hk6 : x.kids.length ≤ 4096 := Nat.le_trans (hc.2.1 x hx).2.2.2.1 hc.1.1.2.2
    obtain ⟨N, hN⟩ : ∃ N : List UInt8 → World → Prop, N = fun ys u => NSt m A c p1 p5 p8 p9 p10 mb n D B wb w w.heap.size #[.int .i64 x.id, .string x.concept, .int .i64 x.parent, .string x.role, .slice Sp x.props.length cp, .slice Sk x.kids.length ck, .slice Sr x.refs.length cr] ys u := ⟨_, rfl⟩
    have HNI : Hid (∀ ys u, NSt m A c p1 p5 p8 p9 p10 mb n D B wb w w.heap.size #[.int .i64 x.id, .string x.concept, .int .i64 x.parent, .string x.role, .slice Sp x.props.length cp, .slice Sk x.kids.length ck, .slice Sr x.refs.length cr] ys u → N ys u) := Lib.hid (fun ys u h => by rw [hN]; exact h)
    have HNO : Hid (∀ ys u, N ys u → NSt m A c p1 p5 p8 p9 p10 mb n D B wb w w.heap.size #[.int .i64 x.id, .string x.concept, .int .i64 x.parent, .string x.role, .slice Sp x.props.length cp, .slice Sk x.kids.length ck, .slice Sr x.refs.length cr] ys u) := Lib.hid (fun ys u h => by rw [hN] at h; exact h)
    have HNB : Hid (∀ ys u v, N ys u → Below u.heap.size u v → N ys v) := Lib.hid (fun ys u v h hb => HNI.out _ _ ((HNO.out _ _ h).below hB hb))
    have HNW : Hid (∀ ys zs u v, N ys u → HoldsB v B p8 zs → Below B u v → Besides p8 u v → zs.length ≤ 1068577 → N zs v) := Lib.hid (fun ys zs u v h h1 h2 h3 h4 => HNI.out _ _ ((HNO.out _ _ h).write h1 h2 h3 h4))
    have HNS : Hid (∀ ys u, N ys u → B ≤ u.heap.size) := Lib.hid (fun ys u h => Nat.le_trans hB (HNO.out _ _ h).far.size)
    have HN1 : Hid (∀ ys u, N ys u → u.cell? ⟨p9, 0, none⟩ = some (.func (.func 11) #[] #[.pointer (some ⟨p8, 0, none⟩)])) := Lib.hid (fun ys u h => by
      have a := (HNO.out _ _ h).env.lin.cell 0
      simp at a; exact a)
    have HNC : Hid (∀ ys u, N ys u → u.cell? ⟨w.heap.size, 0, none⟩ = some (.int .i64 x.id) ∧ u.cell? ⟨w.heap.size, 1, none⟩ = some (.string x.concept) ∧ u.cell? ⟨w.heap.size, 3, none⟩ = some (.string x.role) ∧ u.cell? ⟨w.heap.size, 4, none⟩ = some (.slice Sp x.props.length cp) ∧ u.cell? ⟨w.heap.size, 5, none⟩ = some (.slice Sk x.kids.length ck) ∧ u.cell? ⟨w.heap.size, 6, none⟩ = some (.slice Sr x.refs.length cr) ∧ w.heap.size < u.heap.size) := Lib.hid (fun ys u h => by
      have a0 := (HNO.out _ _ h).node.cell 0; have a1 := (HNO.out _ _ h).node.cell 1; have a3 := (HNO.out _ _ h).node.cell 3; have a4 := (HNO.out _ _ h).node.cell 4; have a5 := (HNO.out _ _ h).node.cell 5; have a6 := (HNO.out _ _ h).node.cell 6
      simp at a0 a1 a3 a4 a5 a6
      exact ⟨a0, a1, a3, a4, a5, a6, (HNO.out _ _ h).node.lt⟩)
    have HSHW : Hid (∀ ys u, N ys u → ∀ z : Int, 1 ≤ z → z ≤ 2147483647 → Calls Tryd.prog 16 #[.int .i64 z] u fun e w' => e = .returned (.string (byt (digs z.toNat))) ∧ Below u.heap.size u w') := Lib.hid (fun ys u h z h1 h2 => nshow_any z h1 h2 B u (ht.on (HNO.out _ _ h).far))
    have HNE := Lib.hid (node_emits m x d xs hc hx hd)
    have HFL : Hid (∀ l ∈ nodeLs x d, l.length ≤ 20000) := Lib.hid (fit_len hFIT hd2)
    have HIH := Lib.hid ih; have HD := Lib.hid hd; have HX := Lib.hid hx
    have HSP := Lib.hid (fun (u : World) (h : Below B wb u) => hsp.keep EProp.stays (Keep.below h hF) (fun _ h => h))
    have HSK := Lib.hid (fun (u : World) (h : Below B wb u) => hsk.keep EInt.stays (Keep.below h hF) (fun _ h => h))
    have HSR := Lib.hid (fun (u : World) (h : Below B wb u) => hsr.keep ERef.stays (Keep.below h hF) (fun _ h => h))
    obtain ⟨u0, hu0⟩ : ∃ u : World, w.alloc (.cells #[.int .i64 x.id, .string x.concept, .int .i64 x.parent, .string x.role, .slice Sp x.props.length cp, .slice Sk x.kids.length ck, .slice Sr x.refs.length cr] 37) = u := ⟨_, rfl⟩
    have hb0 : Below w.heap.size w u0 := by rw [← hu0]; exact (Below.refl _ _).alloc (Nat.le_refl _) _
    have NS : Hid (N xs u0) := Lib.hid (HNI.out _ _ ⟨henv.below hb0, hhold.below hb0, hfar.trans (hb0.mono (Nat.le_trans hB hfar.size)), hb0.mono (Nat.le_trans hB hfar.size), Besides.of_below hb0, by rw [← hu0]; exact Blk.new _ _ _, hxl⟩)
    have HW0 : Hid (Below B wb w) := Lib.hid hfar
    have HU0 := Lib.hid hu0
    have hdc : ((d - 1 : Nat) : Int) = (d : Int) - 1 := by omega
    have hdw : IntKind.i64.wrap (d : Int) = d := IntWalk.i64_in _ ⟨by omega, by omega⟩
    rw [hdc]
    clear hu0 hb0 hfar henv hhold hsp hsk hsr ih hd hN hFIT hdc
    go_enter Tryd.func17, Tryd.ntmps17
    go_upto_region 1 with fail
    rw [HU0.out]
    clear HU0
    obtain ⟨z0, z1, z3, z4, z5, z6, zlt⟩ := HNC.out _ _ NS.out
    go_upto_region 2 with fail
    clear z0 z1 z3 z4 z5 z6 zlt
    go_upto_if 18 with fail
    go_cut [8] (fun s8 wx => s8 = .string (byt (roleL x d)) ∧ u0 = wx)
    case first =>
      by_cases h1 : 1 < d
      · have h1' : (1 : Int) < d := by omega
        have h1'' : (0 : Int) < (d : Int) - 1 := by omega
        have HRY := Lib.hid (role_yes x h1)
        have hsz : ¬ 9223372036854775807 < x.role.size + 1 := by omega
        clear h1
        go_wp2_with fail
        go_meet
        case rel => exact ⟨by rw [HRY.out], rfl⟩
      · have h1' : ¬ (1 : Int) < d := by omega
        have h1'' : ¬ (0 : Int) < (d : Int) - 1 := by omega
        have HRY := Lib.hid (role_no x h1)
        clear h1
        go_wp2_with fail
        go_meet
        case rel => exact ⟨by rw [← HRY.out], rfl⟩
    case rest =>
      obtain ⟨rfl, rfl⟩ := hcut
      have HRL : Hid ((byt (roleL x d)).size ≤ 34) := Lib.hid (by
        rw [byt_size]; unfold roleL
        have e : x.role.data.toList.length = x.role.size := rfl
        rw [List.length_append]
        split <;> simp only [List.length_cons, List.length_nil] <;> omega)
      have HPL := Lib.hid (parts_line x d)
      obtain ⟨rl, hrl⟩ : ∃ s, byt (roleL x d) = s := ⟨_, rfl⟩
      rw [hrl] at HPL HRL ⊢
      clear hrl
      go_upto_region 4 with fail
      have HDC : Hid (((d - 1 : Nat) : Int) = (d : Int) - 1) := Lib.hid (by omega)
      obtain ⟨ud, hu⟩ : ∃ z : World, u0.drew = z := ⟨_, rfl⟩
      have hb : Below u0.heap.size u0 ud := by rw [← hu]; exact (Below.refl _ _).drew
      have NS2 := Lib.hid (HNB.out _ _ _ NS.out hb)
      clear NS
      have NS := NS2
      clear NS2
      clear hb
      have HQS : Hid (∀ zs V, N zs V → V.cell? ⟨p9, 0, none⟩ = some (.func (.func 11) #[] #[.pointer (some ⟨p8, 0, none⟩)]) ∧ V.cell? ⟨w.heap.size, 0, none⟩ = some (.int .i64 x.id) ∧ V.cell? ⟨w.heap.size, 1, none⟩ = some (.string x.concept)) := Lib.hid (fun zs V h => ⟨HN1.out _ _ h, (HNC.out _ _ h).1, (HNC.out _ _ h).2.1⟩)
      have HQ0 := HQS.out _ _ NS.out
      refine wp_region_S (S := (fun w' : World => w'.cell? ⟨p9, 0, none⟩ = some (.func (.func 11) #[] #[.pointer (some ⟨p8, 0, none⟩)]) ∧ w'.cell? ⟨w.heap.size, 0, none⟩ = some (.int .i64 x.id) ∧ w'.cell? ⟨w.heap.size, 1, none⟩ = some (.string x.concept))) (by kernel_rfl) (by rw [hu]; exact HQ0) (fun hHeld => ?_)
      rw [hu] at hHeld ⊢
      clear hu
      refine wpAnyS_take (i := 0) (v := ?_) rfl (by kernel_rfl) (by kernel_rfl) (by kernel_rfl) (fun _ _ _ h => h) (Or.inl ⟨by rfl, ?_⟩) (by assumption) ?_
      rotate_left 1
      · (intro w' hSw; obtain ⟨s0, s1, s2⟩ := hSw; go_simp); try with_reducible rfl
      try simp only [Act.put, List.setIfInBounds_toArray, List.set_cons_zero, List.set_cons_succ, Nat.zero_add]
      refine wpAnyS_take (i := 1) (v := ?_) rfl (by kernel_rfl) (by kernel_rfl) (by kernel_rfl) (fun _ _ _ h => h) (Or.inl ⟨by rfl, ?_⟩) (by assumption) ?_
      rotate_left 1
      · (intro w' hSw; obtain ⟨s0, s1, s2⟩ := hSw; go_simp); try with_reducible rfl
      try simp only [Act.put, List.setIfInBounds_toArray, List.set_cons_zero, List.set_cons_succ, Nat.zero_add]
      refine wpAnyS_take (i := 2) (v := ?_) rfl (by kernel_rfl) (by kernel_rfl) (by kernel_rfl) (fun _ _ _ h => h) (Or.inl ⟨by rfl, ?_⟩) (by assumption) ?_
      rotate_left 1
      · (intro w' hSw; obtain ⟨s0, s1, s2⟩ := hSw; go_simp); try with_reducible rfl
      try simp only [Act.put, List.setIfInBounds_toArray, List.set_cons_zero, List.set_cons_succ, Nat.zero_add]
      refine wpAnyS_take (i := 3) (v := ?_) rfl (by kernel_rfl) (by kernel_rfl) (by kernel_rfl) (fun _ _ _ h => h) (Or.inl ⟨by rfl, ?_⟩) (by assumption) ?_
      rotate_left 1
      · (intro w' hSw; obtain ⟨s0, s1, s2⟩ := hSw; go_simp); try with_reducible rfl
      try simp only [Act.put, List.setIfInBounds_toArray, List.set_cons_zero, List.set_cons_succ, Nat.zero_add]
      refine wpAnyS_take (i := 5) (v := ?_) rfl (by kernel_rfl) (by kernel_rfl) (by kernel_rfl) (fun _ _ _ h => h) (Or.inl ⟨by rfl, ?_⟩) (by assumption) ?_
      rotate_left 1
      · (intro w' hSw; obtain ⟨s0, s1, s2⟩ := hSw; go_simp); try with_reducible rfl
      try simp only [Act.put, List.setIfInBounds_toArray, List.set_cons_zero, List.set_cons_succ, Nat.zero_add]
      refine wpAnyS_take (i := 6) (v := ?_) rfl (by kernel_rfl) (by kernel_rfl) (by kernel_rfl) (fun _ _ _ h => h) (Or.inl ⟨by rfl, ?_⟩) (by assumption) ?_
      rotate_left 1
      · (intro w' hSw; obtain ⟨s0, s1, s2⟩ := hSw; go_simp); try with_reducible rfl
      try simp only [Act.put, List.setIfInBounds_toArray, List.set_cons_zero, List.set_cons_succ, Nat.zero_add]
      refine wpAnyS_take (i := 7) (v := ?_) rfl (by kernel_rfl) (by kernel_rfl) (by kernel_rfl) (fun _ _ _ h => h) (Or.inl ⟨by rfl, ?_⟩) (by assumption) ?_
      rotate_left 1
      · (intro w' hSw; obtain ⟨s0, s1, s2⟩ := hSw; go_simp); try with_reducible rfl
      try simp only [Act.put, List.setIfInBounds_toArray, List.set_cons_zero, List.set_cons_succ, Nat.zero_add]
      refine wpAnyS_one (i := 4) rfl (by kernel_rfl) (fun K hK => ?_)
      go_simp
      refine (HSHW.out _ _ NS.out x.id hi1 (by omega)).mono ?_
      rintro _ v1 ⟨rfl, hb⟩
      have NS2 := Lib.hid (HNB.out _ _ _ NS.out hb)
      clear NS
      have NS := NS2
      clear NS2
      clear hb
      have HQ1 := HQS.out _ _ NS.out
      go_simp
      refine hK.out _ _ HQ1 ?_
      clear hK K
      try simp only [Act.put, List.setIfInBounds_toArray, List.set_cons_zero, List.set_cons_succ, Nat.zero_add]
      refine wpAnyS_one (i := 8) rfl (by kernel_rfl) (fun K hK => ?_)
      go_simp
      obtain ⟨g, hg⟩ : ∃ q, v1.heap.size = q := ⟨_, rfl⟩
      obtain ⟨v2, hnw⟩ : ∃ z : World, v1.alloc (.cells #[.string (byt (digs x.id.toNat)), .string (⟨#[32]⟩), .string (rl), .string (x.concept)] 9) = z := ⟨_, rfl⟩
      have hb : Below v1.heap.size v1 v2 := by rw [← hnw]; exact (Below.refl _ _).alloc (Nat.le_refl _) _
      have HK8 : Hid (Blk v2 g 9 #[.string (byt (digs x.id.toNat)), .string (⟨#[32]⟩), .string (rl), .string (x.concept)]) := Lib.hid (by rw [← hnw]; exact Blk.new' hg.symm)
      have NS2 := Lib.hid (HNB.out _ _ _ NS.out hb)
      clear NS
      have NS := NS2
      clear NS2
      clear hb
      have HQ2 := HQS.out _ _ NS.out
      rw [hnw]
      try rw [hg]
      clear hnw hg
      refine hK.out _ _ HQ2 ?_
      clear hK K
      try simp only [Act.put, List.setIfInBounds_toArray, List.set_cons_zero, List.set_cons_succ, Nat.zero_add]
      refine wpAnyS_one (i := 9) rfl (by kernel_rfl) (fun K hK => ?_)
      have HFC : Hid ((lineN x d).length ≤ 20000) := Lib.hid (HFL.out _ (List.mem_cons_self ..))
      have HLC := Lib.hid (line_any B p8 g (d - 1) (xs) [byt (digs x.id.toNat), ⟨#[32]⟩, rl, x.concept] v2 (HNO.out _ _ NS.out).hold HK8.out (by omega) (by have := (HNO.out _ _ NS.out).len; omega) (by
        have h := HFC.out
        rw [← HPL.out, List.length_append] at h
        exact Nat.le_trans (Nat.le_add_left _ _) (Nat.le_trans h (by decide))) (by simp) (HNS.out _ _ NS.out))
      have HQL : Hid ((emit (xs) (lineN x d)).length ≤ 1068577) := Lib.hid (emit_len (HNO.out _ _ NS.out).len HFC.out)
      rw [show ([byt (digs x.id.toNat), ⟨#[32]⟩, rl, x.concept] : List ByteArray).length = 4 from rfl, HPL.out] at HLC
      (try rw [HDC.out] at HLC)
      go_simp
      refine HLC.out.mono ?_
      rintro _ v3 ⟨rfl, hx3, hb3, he3⟩
      have NS3 := Lib.hid (HNW.out _ _ _ _ NS.out hx3 hb3 he3 HQL.out)
      clear hx3 hb3 he3 NS HLC HQL HK8 HFC
      have NS := NS3
      clear NS3
      have HQ3 := HQS.out _ _ NS.out
      go_simp
      refine hK.out _ _ HQ3 ?_
      clear hK K
      try simp only [Act.put, List.setIfInBounds_toArray, List.set_cons_zero, List.set_cons_succ, Nat.zero_add]
      refine wpAnyS_done (by kernel_rfl) ?_ _
      clear HQS HQ0 HQ1 HQ2 HQ3
      obtain ⟨X1, hX1⟩ : ∃ X, emit xs (lineN x d) = X := ⟨_, rfl⟩
      rw [hX1] at NS HNE
      clear hX1 HPL HRL
      obtain ⟨z0, z1, z3, z4, z5, z6, zlt⟩ := HNC.out _ _ NS.out
      go_upto_region 6 with fail
      clear z0 z1 z3 z4 z5 z6 zlt
      go_loopg [34] x.props.length (fun q s34 wx => ∃ j : Nat, s34 = .int .i64 j ∧ q = x.props.length - j ∧ j ≤ x.props.length ∧ N (emits X1 (((x.props.take j)).map (lineP d))) wx)
      case atStart => exact ⟨0, rfl, rfl, Nat.zero_le _, NS.out⟩
      case round =>
        clear NS
        obtain ⟨j, rfl, rfl, hj, hns⟩ := hrel
        have NS := Lib.hid hns
        clear hns
        have j0 : (0 : Int) ≤ j := by omega
        by_cases hlt : j < x.props.length
        · have hlt' : (j : Int) < x.props.length := by omega
          have HLX : Hid (emits X1 ((x.props.take (j + 1)).map (lineP d)) = emit (emits X1 ((x.props.take j).map (lineP d))) (lineP d x.props[j])) := Lib.hid (by
            rw [List.take_succ_eq_append_getElem hlt, List.map_append, emits_app]; rfl)
          obtain ⟨b9, o9, rfl, _, d0, d1⟩ := prop_at (HSP.out _ (HNO.out _ _ NS.out).far) hlt
          have hfit := HFIT.out.prop j hlt
          obtain ⟨p, hp⟩ : ∃ p, x.props[j] = p := ⟨_, rfl⟩
          rw [hp] at d0 d1 hfit HLX
          have HPQ := Lib.hid (parts_prop p d)
          have HPF : Hid ((lineP d p).length ≤ 20000) := Lib.hid (HFL.out _ (List.mem_cons_of_mem _ (List.mem_append_left _ (List.mem_map.2 ⟨p, by rw [← hp]; exact List.getElem_mem hlt, rfl⟩))))
          have HQU := Lib.hid (fun V => quote_any p.value V (by omega))
          obtain ⟨Y, hY⟩ : ∃ Y, emits X1 ((x.props.take j).map (lineP d)) = Y := ⟨_, rfl⟩
          rw [hY] at NS HLX
          obtain ⟨qb, hqb⟩ : ∃ q, wr.heap.size = q := ⟨_, rfl⟩
          obtain ⟨u1, hu1⟩ : ∃ u : World, wr.alloc (.cells #[.string p.name, .string p.value] 57) = u := ⟨_, rfl⟩
          have hb : Below wr.heap.size wr u1 := by rw [← hu1]; exact (Below.refl _ _).alloc (Nat.le_refl _) _
          have HKQ : Hid (Blk u1 qb 57 #[.string p.name, .string p.value]) := Lib.hid (by rw [← hu1]; exact Blk.new' hqb.symm)
          have NS2 := Lib.hid (HNB.out _ _ _ NS.out hb)
          have HU1 := Lib.hid hu1; have HQB := Lib.hid hqb
          clear hY hu1 hqb hb hp
          go_upto_region 8 with fail
          (try rw [HU1.out])
          (try rw [HQB.out])
          (try rw [HU1.out])
          clear NS HU1 HQB d0 d1
          have NS := NS2
          clear NS2
          obtain ⟨ud, hu⟩ : ∃ z : World, u1.drew = z := ⟨_, rfl⟩
          have hb : Below u1.heap.size u1 ud := by rw [← hu]; exact (Below.refl _ _).drew
          have NS2 := Lib.hid (HNB.out _ _ _ NS.out hb)
          clear NS
          have NS := NS2
          clear NS2
          have HKQ2 := Lib.hid (HKQ.out.below hb HKQ.out.lt)
          clear HKQ
          have HKQ := HKQ2
          clear HKQ2
          clear hb
          have HQS : Hid (∀ zs V, N zs V → Blk V qb 57 #[.string p.name, .string p.value] → V.cell? ⟨p9, 0, none⟩ = some (.func (.func 11) #[] #[.pointer (some ⟨p8, 0, none⟩)]) ∧ V.cell? ⟨qb, 0, none⟩ = some (.string p.name) ∧ V.cell? ⟨qb, 1, none⟩ = some (.string p.value)) := Lib.hid (fun zs V h hq => ⟨HN1.out _ _ h, by have a := hq.cell 0; simp at a; exact a, by have a := hq.cell 1; simp at a; exact a⟩)
          have HQ0 := HQS.out _ _ NS.out HKQ.out
          refine wp_region_S (S := (fun w' : World => w'.cell? ⟨p9, 0, none⟩ = some (.func (.func 11) #[] #[.pointer (some ⟨p8, 0, none⟩)]) ∧ w'.cell? ⟨qb, 0, none⟩ = some (.string p.name) ∧ w'.cell? ⟨qb, 1, none⟩ = some (.string p.value))) (by kernel_rfl) (by rw [hu]; exact HQ0) (fun hHeld => ?_)
          rw [hu] at hHeld ⊢
          clear hu
          refine wpAnyS_take (i := 0) (v := ?_) rfl (by kernel_rfl) (by kernel_rfl) (by kernel_rfl) (fun _ _ _ h => h) (Or.inl ⟨by rfl, ?_⟩) (by assumption) ?_
          rotate_left 1
          · (intro w' hSw; obtain ⟨s0, s1, s2⟩ := hSw; go_simp); try with_reducible rfl
          try simp only [Act.put, List.setIfInBounds_toArray, List.set_cons_zero, List.set_cons_succ, Nat.zero_add]
          refine wpAnyS_take (i := 1) (v := ?_) rfl (by kernel_rfl) (by kernel_rfl) (by kernel_rfl) (fun _ _ _ h => h) (Or.inl ⟨by rfl, ?_⟩) (by assumption) ?_
          rotate_left 1
          · (intro w' hSw; obtain ⟨s0, s1, s2⟩ := hSw; go_simp); try with_reducible rfl
          try simp only [Act.put, List.setIfInBounds_toArray, List.set_cons_zero, List.set_cons_succ, Nat.zero_add]
          refine wpAnyS_take (i := 2) (v := ?_) rfl (by kernel_rfl) (by kernel_rfl) (by kernel_rfl) (fun _ _ _ h => h) (Or.inl ⟨by rfl, ?_⟩) (by assumption) ?_
          rotate_left 1
          · (intro w' hSw; obtain ⟨s0, s1, s2⟩ := hSw; go_simp); try with_reducible rfl
          try simp only [Act.put, List.setIfInBounds_toArray, List.set_cons_zero, List.set_cons_succ, Nat.zero_add]
          refine wpAnyS_take (i := 3) (v := ?_) rfl (by kernel_rfl) (by kernel_rfl) (by kernel_rfl) (fun _ _ _ h => h) (Or.inl ⟨by rfl, ?_⟩) (by assumption) ?_
          rotate_left 1
          · (intro w' hSw; obtain ⟨s0, s1, s2⟩ := hSw; go_simp); try with_reducible rfl
          try simp only [Act.put, List.setIfInBounds_toArray, List.set_cons_zero, List.set_cons_succ, Nat.zero_add]
          refine wpAnyS_take (i := 4) (v := ?_) rfl (by kernel_rfl) (by kernel_rfl) (by kernel_rfl) (fun _ _ _ h => h) (Or.inl ⟨by rfl, ?_⟩) (by assumption) ?_
          rotate_left 1
          · (intro w' hSw; obtain ⟨s0, s1, s2⟩ := hSw; go_simp); try with_reducible rfl
          try simp only [Act.put, List.setIfInBounds_toArray, List.set_cons_zero, List.set_cons_succ, Nat.zero_add]
          refine wpAnyS_take (i := 5) (v := ?_) rfl (by kernel_rfl) (by kernel_rfl) (by kernel_rfl) (fun _ _ _ h => h) (Or.inl ⟨by rfl, ?_⟩) (by assumption) ?_
          rotate_left 1
          · (intro w' hSw; obtain ⟨s0, s1, s2⟩ := hSw; go_simp); try with_reducible rfl
          try simp only [Act.put, List.setIfInBounds_toArray, List.set_cons_zero, List.set_cons_succ, Nat.zero_add]
          refine wpAnyS_take (i := 6) (v := ?_) rfl (by kernel_rfl) (by kernel_rfl) (by kernel_rfl) (fun _ _ _ h => h) (Or.inl ⟨by rfl, ?_⟩) (by assumption) ?_
          rotate_left 1
          · (intro w' hSw; obtain ⟨s0, s1, s2⟩ := hSw; go_simp); try with_reducible rfl
          try simp only [Act.put, List.setIfInBounds_toArray, List.set_cons_zero, List.set_cons_succ, Nat.zero_add]
          refine wpAnyS_one (i := 7) rfl (by kernel_rfl) (fun K hK => ?_)
          go_simp
          refine (HQU.out _).mono ?_
          rintro _ v1 ⟨rfl, hb⟩
          have NS2 := Lib.hid (HNB.out _ _ _ NS.out hb)
          clear NS
          have NS := NS2
          clear NS2
          have HKQ2 := Lib.hid (HKQ.out.below hb HKQ.out.lt)
          clear HKQ
          have HKQ := HKQ2
          clear HKQ2
          clear hb
          have HQ1 := HQS.out _ _ NS.out HKQ.out
          go_simp
          refine hK.out _ _ HQ1 ?_
          clear hK K
          try simp only [Act.put, List.setIfInBounds_toArray, List.set_cons_zero, List.set_cons_succ, Nat.zero_add]
          refine wpAnyS_one (i := 8) rfl (by kernel_rfl) (fun K hK => ?_)
          go_simp
          obtain ⟨g, hg⟩ : ∃ q, v1.heap.size = q := ⟨_, rfl⟩
          obtain ⟨v2, hnw⟩ : ∃ z : World, v1.alloc (.cells #[.string (⟨#[46]⟩), .string (p.name), .string (⟨#[61]⟩), .string (byt (quoteL p.value.data.toList))] 9) = z := ⟨_, rfl⟩
          have hb : Below v1.heap.size v1 v2 := by rw [← hnw]; exact (Below.refl _ _).alloc (Nat.le_refl _) _
          have HK8 : Hid (Blk v2 g 9 #[.string (⟨#[46]⟩), .string (p.name), .string (⟨#[61]⟩), .string (byt (quoteL p.value.data.toList))]) := Lib.hid (by rw [← hnw]; exact Blk.new' hg.symm)
          have NS2 := Lib.hid (HNB.out _ _ _ NS.out hb)
          clear NS
          have NS := NS2
          clear NS2
          have HKQ2 := Lib.hid (HKQ.out.below hb HKQ.out.lt)
          clear HKQ
          have HKQ := HKQ2
          clear HKQ2
          clear hb
          have HQ2 := HQS.out _ _ NS.out HKQ.out
          rw [hnw]
          try rw [hg]
          clear hnw hg
          refine hK.out _ _ HQ2 ?_
          clear hK K
          try simp only [Act.put, List.setIfInBounds_toArray, List.set_cons_zero, List.set_cons_succ, Nat.zero_add]
          refine wpAnyS_one (i := 9) rfl (by kernel_rfl) (fun K hK => ?_)
          have HFC : Hid ((lineP d p).length ≤ 20000) := Lib.hid (HPF.out)
          have HLC := Lib.hid (line_any B p8 g (d) (Y) [⟨#[46]⟩, p.name, ⟨#[61]⟩, byt (quoteL p.value.data.toList)] v2 (HNO.out _ _ NS.out).hold HK8.out (by omega) (by have := (HNO.out _ _ NS.out).len; omega) (by
            have h := HFC.out
            rw [← HPQ.out, List.length_append] at h
            exact Nat.le_trans (Nat.le_add_left _ _) (Nat.le_trans h (by decide))) (by simp) (HNS.out _ _ NS.out))
          have HQL : Hid ((emit (Y) (lineP d p)).length ≤ 1068577) := Lib.hid (emit_len (HNO.out _ _ NS.out).len HFC.out)
          rw [show ([⟨#[46]⟩, p.name, ⟨#[61]⟩, byt (quoteL p.value.data.toList)] : List ByteArray).length = 4 from rfl, HPQ.out] at HLC
          (try rw [HDC.out] at HLC)
          go_simp
          refine HLC.out.mono ?_
          rintro _ v3 ⟨rfl, hx3, hb3, he3⟩
          have NS3 := Lib.hid (HNW.out _ _ _ _ NS.out hx3 hb3 he3 HQL.out)
          have HKQ2 := Lib.hid (HKQ.out.besides he3 ((HNO.out _ _ NS.out).hold.ne HKQ.out (by decide)) (by decide))
          clear HKQ
          have HKQ := HKQ2
          clear HKQ2
          clear hx3 hb3 he3 NS HLC HQL HK8 HFC
          have NS := NS3
          clear NS3
          have HQ3 := HQS.out _ _ NS.out HKQ.out
          go_simp
          refine hK.out _ _ HQ3 ?_
          clear hK K
          try simp only [Act.put, List.setIfInBounds_toArray, List.set_cons_zero, List.set_cons_succ, Nat.zero_add]
          refine wpAnyS_done (by kernel_rfl) ?_ _
          clear HQS HQ0 HQ1 HQ2 HQ3
          go_wp2_with fail
          go_roundg (x.props.length - (j + 1))
          case measure => omega
          case rel => exact ⟨j + 1, by go_num, rfl, by omega, by rw [HLX.out]; exact NS.out⟩
        obtain rfl : j = x.props.length := by omega
        have hlt' : ¬ (x.props.length : Int) < x.props.length := by omega
        rw [show x.props.take x.props.length = x.props from List.take_length] at NS
        obtain ⟨X2, hX2⟩ : ∃ X, emits X1 ((x.props).map (lineP d)) = X := ⟨_, rfl⟩
        rw [hX2] at NS HNE
        clear hX2 hlt
        obtain ⟨z0, z1, z3, z4, z5, z6, zlt⟩ := HNC.out _ _ NS.out
        go_upto_region 11 with fail
        clear z0 z1 z3 z4 z5 z6 zlt
        go_loopg [52] x.refs.length (fun q s52 wx => ∃ j : Nat, s52 = .int .i64 j ∧ q = x.refs.length - j ∧ j ≤ x.refs.length ∧ N (emits X2 (((x.refs.take j)).map (lineR d))) wx)
        case atStart => exact ⟨0, rfl, rfl, Nat.zero_le _, NS.out⟩
        case round =>
          clear NS
          obtain ⟨j, rfl, rfl, hj, hns⟩ := hrel
          have NS := Lib.hid hns
          clear hns
          have j0 : (0 : Int) ≤ j := by omega
          by_cases hlt : j < x.refs.length
          · have hlt' : (j : Int) < x.refs.length := by omega
            have HLX : Hid (emits X2 ((x.refs.take (j + 1)).map (lineR d)) = emit (emits X2 ((x.refs.take j).map (lineR d))) (lineR d x.refs[j])) := Lib.hid (by
              rw [List.take_succ_eq_append_getElem hlt, List.map_append, emits_app]; rfl)
            obtain ⟨b9, o9, rfl, _, d0, d1⟩ := ref_at (HSR.out _ (HNO.out _ _ NS.out).far) hlt
            have hfit := HFIT.out.ref j hlt
            obtain ⟨p, hp⟩ : ∃ p, x.refs[j] = p := ⟨_, rfl⟩
            rw [hp] at d0 d1 hfit HLX
            have HPQ := Lib.hid (parts_ref p d)
            have HPF : Hid ((lineR d p).length ≤ 20000) := Lib.hid (HFL.out _ (List.mem_cons_of_mem _ (List.mem_append_right _ (List.mem_map.2 ⟨p, by rw [← hp]; exact List.getElem_mem hlt, rfl⟩))))
            obtain ⟨Y, hY⟩ : ∃ Y, emits X2 ((x.refs.take j).map (lineR d)) = Y := ⟨_, rfl⟩
            rw [hY] at NS HLX
            obtain ⟨qb, hqb⟩ : ∃ q, wr.heap.size = q := ⟨_, rfl⟩
            obtain ⟨u1, hu1⟩ : ∃ u : World, wr.alloc (.cells #[.string p.role, .int .i64 p.target] 60) = u := ⟨_, rfl⟩
            have hb : Below wr.heap.size wr u1 := by rw [← hu1]; exact (Below.refl _ _).alloc (Nat.le_refl _) _
            have HKQ : Hid (Blk u1 qb 60 #[.string p.role, .int .i64 p.target]) := Lib.hid (by rw [← hu1]; exact Blk.new' hqb.symm)
            have NS2 := Lib.hid (HNB.out _ _ _ NS.out hb)
            have HU1 := Lib.hid hu1; have HQB := Lib.hid hqb
            clear hY hu1 hqb hb hp
            go_upto_region 13 with fail
            (try rw [HU1.out])
            (try rw [HQB.out])
            (try rw [HU1.out])
            clear NS HU1 HQB d0 d1
            have NS := NS2
            clear NS2
            obtain ⟨ud, hu⟩ : ∃ z : World, u1.drew = z := ⟨_, rfl⟩
            have hb : Below u1.heap.size u1 ud := by rw [← hu]; exact (Below.refl _ _).drew
            have NS2 := Lib.hid (HNB.out _ _ _ NS.out hb)
            clear NS
            have NS := NS2
            clear NS2
            have HKQ2 := Lib.hid (HKQ.out.below hb HKQ.out.lt)
            clear HKQ
            have HKQ := HKQ2
            clear HKQ2
            clear hb
            have HQS : Hid (∀ zs V, N zs V → Blk V qb 60 #[.string p.role, .int .i64 p.target] → V.cell? ⟨p9, 0, none⟩ = some (.func (.func 11) #[] #[.pointer (some ⟨p8, 0, none⟩)]) ∧ V.cell? ⟨qb, 0, none⟩ = some (.string p.role) ∧ V.cell? ⟨qb, 1, none⟩ = some (.int .i64 p.target)) := Lib.hid (fun zs V h hq => ⟨HN1.out _ _ h, by have a := hq.cell 0; simp at a; exact a, by have a := hq.cell 1; simp at a; exact a⟩)
            have HQ0 := HQS.out _ _ NS.out HKQ.out
            refine wp_region_S (S := (fun w' : World => w'.cell? ⟨p9, 0, none⟩ = some (.func (.func 11) #[] #[.pointer (some ⟨p8, 0, none⟩)]) ∧ w'.cell? ⟨qb, 0, none⟩ = some (.string p.role) ∧ w'.cell? ⟨qb, 1, none⟩ = some (.int .i64 p.target))) (by kernel_rfl) (by rw [hu]; exact HQ0) (fun hHeld => ?_)
            rw [hu] at hHeld ⊢
            clear hu
            refine wpAnyS_take (i := 0) (v := ?_) rfl (by kernel_rfl) (by kernel_rfl) (by kernel_rfl) (fun _ _ _ h => h) (Or.inl ⟨by rfl, ?_⟩) (by assumption) ?_
            rotate_left 1
            · (intro w' hSw; obtain ⟨s0, s1, s2⟩ := hSw; go_simp); try with_reducible rfl
            try simp only [Act.put, List.setIfInBounds_toArray, List.set_cons_zero, List.set_cons_succ, Nat.zero_add]
            refine wpAnyS_take (i := 1) (v := ?_) rfl (by kernel_rfl) (by kernel_rfl) (by kernel_rfl) (fun _ _ _ h => h) (Or.inl ⟨by rfl, ?_⟩) (by assumption) ?_
            rotate_left 1
            · (intro w' hSw; obtain ⟨s0, s1, s2⟩ := hSw; go_simp); try with_reducible rfl
            try simp only [Act.put, List.setIfInBounds_toArray, List.set_cons_zero, List.set_cons_succ, Nat.zero_add]
            refine wpAnyS_take (i := 2) (v := ?_) rfl (by kernel_rfl) (by kernel_rfl) (by kernel_rfl) (fun _ _ _ h => h) (Or.inl ⟨by rfl, ?_⟩) (by assumption) ?_
            rotate_left 1
            · (intro w' hSw; obtain ⟨s0, s1, s2⟩ := hSw; go_simp); try with_reducible rfl
            try simp only [Act.put, List.setIfInBounds_toArray, List.set_cons_zero, List.set_cons_succ, Nat.zero_add]
            refine wpAnyS_take (i := 3) (v := ?_) rfl (by kernel_rfl) (by kernel_rfl) (by kernel_rfl) (fun _ _ _ h => h) (Or.inl ⟨by rfl, ?_⟩) (by assumption) ?_
            rotate_left 1
            · (intro w' hSw; obtain ⟨s0, s1, s2⟩ := hSw; go_simp); try with_reducible rfl
            try simp only [Act.put, List.setIfInBounds_toArray, List.set_cons_zero, List.set_cons_succ, Nat.zero_add]
            refine wpAnyS_take (i := 4) (v := ?_) rfl (by kernel_rfl) (by kernel_rfl) (by kernel_rfl) (fun _ _ _ h => h) (Or.inl ⟨by rfl, ?_⟩) (by assumption) ?_
            rotate_left 1
            · (intro w' hSw; obtain ⟨s0, s1, s2⟩ := hSw; go_simp); try with_reducible rfl
            try simp only [Act.put, List.setIfInBounds_toArray, List.set_cons_zero, List.set_cons_succ, Nat.zero_add]
            refine wpAnyS_take (i := 5) (v := ?_) rfl (by kernel_rfl) (by kernel_rfl) (by kernel_rfl) (fun _ _ _ h => h) (Or.inl ⟨by rfl, ?_⟩) (by assumption) ?_
            rotate_left 1
            · (intro w' hSw; obtain ⟨s0, s1, s2⟩ := hSw; go_simp); try with_reducible rfl
            try simp only [Act.put, List.setIfInBounds_toArray, List.set_cons_zero, List.set_cons_succ, Nat.zero_add]
            refine wpAnyS_take (i := 6) (v := ?_) rfl (by kernel_rfl) (by kernel_rfl) (by kernel_rfl) (fun _ _ _ h => h) (Or.inl ⟨by rfl, ?_⟩) (by assumption) ?_
            rotate_left 1
            · (intro w' hSw; obtain ⟨s0, s1, s2⟩ := hSw; go_simp); try with_reducible rfl
            try simp only [Act.put, List.setIfInBounds_toArray, List.set_cons_zero, List.set_cons_succ, Nat.zero_add]
            refine wpAnyS_one (i := 7) rfl (by kernel_rfl) (fun K hK => ?_)
            go_simp
            refine (HSHW.out _ _ NS.out p.target hfit.2.1 (by omega)).mono ?_
            rintro _ v1 ⟨rfl, hb⟩
            have NS2 := Lib.hid (HNB.out _ _ _ NS.out hb)
            clear NS
            have NS := NS2
            clear NS2
            have HKQ2 := Lib.hid (HKQ.out.below hb HKQ.out.lt)
            clear HKQ
            have HKQ := HKQ2
            clear HKQ2
            clear hb
            have HQ1 := HQS.out _ _ NS.out HKQ.out
            go_simp
            refine hK.out _ _ HQ1 ?_
            clear hK K
            try simp only [Act.put, List.setIfInBounds_toArray, List.set_cons_zero, List.set_cons_succ, Nat.zero_add]
            refine wpAnyS_one (i := 8) rfl (by kernel_rfl) (fun K hK => ?_)
            go_simp
            obtain ⟨g, hg⟩ : ∃ q, v1.heap.size = q := ⟨_, rfl⟩
            obtain ⟨v2, hnw⟩ : ∃ z : World, v1.alloc (.cells #[.string (⟨#[62]⟩), .string (p.role), .string (⟨#[61]⟩), .string (byt (digs p.target.toNat))] 9) = z := ⟨_, rfl⟩
            have hb : Below v1.heap.size v1 v2 := by rw [← hnw]; exact (Below.refl _ _).alloc (Nat.le_refl _) _
            have HK8 : Hid (Blk v2 g 9 #[.string (⟨#[62]⟩), .string (p.role), .string (⟨#[61]⟩), .string (byt (digs p.target.toNat))]) := Lib.hid (by rw [← hnw]; exact Blk.new' hg.symm)
            have NS2 := Lib.hid (HNB.out _ _ _ NS.out hb)
            clear NS
            have NS := NS2
            clear NS2
            have HKQ2 := Lib.hid (HKQ.out.below hb HKQ.out.lt)
            clear HKQ
            have HKQ := HKQ2
            clear HKQ2
            clear hb
            have HQ2 := HQS.out _ _ NS.out HKQ.out
            rw [hnw]
            try rw [hg]
            clear hnw hg
            refine hK.out _ _ HQ2 ?_
            clear hK K
            try simp only [Act.put, List.setIfInBounds_toArray, List.set_cons_zero, List.set_cons_succ, Nat.zero_add]
            refine wpAnyS_one (i := 9) rfl (by kernel_rfl) (fun K hK => ?_)
            have HFC : Hid ((lineR d p).length ≤ 20000) := Lib.hid (HPF.out)
            have HLC := Lib.hid (line_any B p8 g (d) (Y) [⟨#[62]⟩, p.role, ⟨#[61]⟩, byt (digs p.target.toNat)] v2 (HNO.out _ _ NS.out).hold HK8.out (by omega) (by have := (HNO.out _ _ NS.out).len; omega) (by
              have h := HFC.out
              rw [← HPQ.out, List.length_append] at h
              exact Nat.le_trans (Nat.le_add_left _ _) (Nat.le_trans h (by decide))) (by simp) (HNS.out _ _ NS.out))
            have HQL : Hid ((emit (Y) (lineR d p)).length ≤ 1068577) := Lib.hid (emit_len (HNO.out _ _ NS.out).len HFC.out)
            rw [show ([⟨#[62]⟩, p.role, ⟨#[61]⟩, byt (digs p.target.toNat)] : List ByteArray).length = 4 from rfl, HPQ.out] at HLC
            (try rw [HDC.out] at HLC)
            go_simp
            refine HLC.out.mono ?_
            rintro _ v3 ⟨rfl, hx3, hb3, he3⟩
            have NS3 := Lib.hid (HNW.out _ _ _ _ NS.out hx3 hb3 he3 HQL.out)
            have HKQ2 := Lib.hid (HKQ.out.besides he3 ((HNO.out _ _ NS.out).hold.ne HKQ.out (by decide)) (by decide))
            clear HKQ
            have HKQ := HKQ2
            clear HKQ2
            clear hx3 hb3 he3 NS HLC HQL HK8 HFC
            have NS := NS3
            clear NS3
            have HQ3 := HQS.out _ _ NS.out HKQ.out
            go_simp
            refine hK.out _ _ HQ3 ?_
            clear hK K
            try simp only [Act.put, List.setIfInBounds_toArray, List.set_cons_zero, List.set_cons_succ, Nat.zero_add]
            refine wpAnyS_done (by kernel_rfl) ?_ _
            clear HQS HQ0 HQ1 HQ2 HQ3
            go_wp2_with fail
            go_roundg (x.refs.length - (j + 1))
            case measure => omega
            case rel => exact ⟨j + 1, by go_num, rfl, by omega, by rw [HLX.out]; exact NS.out⟩
          obtain rfl : j = x.refs.length := by omega
          have hlt' : ¬ (x.refs.length : Int) < x.refs.length := by omega
          rw [show x.refs.take x.refs.length = x.refs from List.take_length] at NS
          obtain ⟨X3, hX2⟩ : ∃ X, emits X2 ((x.refs).map (lineR d)) = X := ⟨_, rfl⟩
          rw [hX2] at NS HNE
          clear hX2 hlt
          obtain ⟨z0, z1, z3, z4, z5, z6, zlt⟩ := HNC.out _ _ NS.out
          go_upto_region 16 with fail
          clear z0 z1 z3 z4 z5 z6 zlt
          go_loopg [70] x.kids.length (fun q s70 wx => ∃ j : Nat, s70 = .int .i64 j ∧ q = x.kids.length - j ∧ j ≤ x.kids.length ∧ N (emits X3 (((x.kids.take j)).flatMap (downLs m))) wx)
          case atStart => exact ⟨0, rfl, rfl, Nat.zero_le _, NS.out⟩
          case round =>
            clear NS
            obtain ⟨j, rfl, rfl, hj, hns⟩ := hrel
            have NS := Lib.hid hns
            clear hns
            have j0 : (0 : Int) ≤ j := by omega
            by_cases hlt : j < x.kids.length
            · have hlt' : (j : Int) < x.kids.length := by omega
              have hkm := List.getElem_mem hlt
              obtain ⟨y, hy, hyk, _⟩ := hc.tree.kid HX.out hkm
              obtain ⟨hdk, hd6⟩ := hc.tree.dep_kid HX.out HD.out hkm
              rw [← hyk] at hdk
              obtain ⟨i, hi, rfl⟩ := List.getElem_of_mem hy
              have HLX : Hid (emits X3 ((x.kids.take (j + 1)).flatMap (downLs m)) = emits (emits X3 ((x.kids.take j).flatMap (downLs m))) (downLs m m.nodes[i].id)) := Lib.hid (by
                rw [List.take_succ_eq_append_getElem hlt, List.flatMap_append, emits_app, hyk]
                simp only [List.flatMap_cons, List.flatMap_nil, List.append_nil])
              obtain ⟨b9, o9, rfl, _, d0⟩ := int_at (HSK.out _ (HNO.out _ _ NS.out).far) hlt
              rw [← hyk] at d0
              obtain ⟨b8, o8, Sp2, cp2, Sk2, ck2, Sr2, cr2, rfl, hbF, e0, e1, e2, e3, e4, e5, e6, ⟨_, _, hp9⟩, ⟨_, _, hk9⟩, ⟨_, _, hr9⟩⟩ := node_at hrow hi
              have hyi := hc.1.2 i hi
              have hnx := hc.1.1.2.1
              obtain ⟨Y, hY⟩ : ∃ Y, emits X3 ((x.kids.take j).flatMap (downLs m)) = Y := ⟨_, rfl⟩
              rw [hY] at NS HLX
              have HQS : Hid (∀ zs V, N zs V → V.cell? ⟨p10, 0, none⟩ = some (.func (.func 17) #[] #[.pointer (some ⟨p9, 0, none⟩), .pointer (some ⟨p10, 0, none⟩), .pointer (some ⟨p1, 0, none⟩), .pointer (some ⟨p5, 0, none⟩)]) ∧ V.cell? ⟨p1, 1, none⟩ = some (.slice (some ⟨b8, o8, none⟩) m.nodes.length c) ∧ V.cell? ⟨p5, 0, none⟩ = some (.map (some mb)) ∧ (Instr.lookup 40 (.map (some mb)) (.int .i64 m.nodes[i].id) false).run Tryd.prog V = .ok (.int .i64 i) V ∧
                  V.cell? ⟨b8, o8 + i * 7, none⟩ = some (.int .i64 m.nodes[i].id) ∧ V.cell? ⟨b8, o8 + i * 7 + 1, none⟩ = some (.string m.nodes[i].concept) ∧ V.cell? ⟨b8, o8 + i * 7 + 2, none⟩ = some (.int .i64 m.nodes[i].parent) ∧ V.cell? ⟨b8, o8 + i * 7 + 3, none⟩ = some (.string m.nodes[i].role) ∧ V.cell? ⟨b8, o8 + i * 7 + 4, none⟩ = some (.slice Sp2 m.nodes[i].props.length cp2) ∧ V.cell? ⟨b8, o8 + i * 7 + 5, none⟩ = some (.slice Sk2 m.nodes[i].kids.length ck2) ∧ V.cell? ⟨b8, o8 + i * 7 + 6, none⟩ = some (.slice Sr2 m.nodes[i].refs.length cr2)) := Lib.hid (fun zs V h => by
                have hf := (HNO.out _ _ h).far
                have a1 := (HNO.out _ _ h).env.nod.cell 0; have a2 := (HNO.out _ _ h).env.mdl.cell 1; have a3 := (HNO.out _ _ h).env.cell.cell 0
                simp at a1 a2 a3
                have hB8 := hF _ hbF
                exact ⟨a1, a2, a3, (HNO.out _ _ h).env.look hM hc.1.srt hi ⟨by omega, by omega⟩, (hf.cell (p := ⟨b8, _, none⟩) hB8).trans e0, (hf.cell (p := ⟨b8, _, none⟩) hB8).trans e1, (hf.cell (p := ⟨b8, _, none⟩) hB8).trans e2, (hf.cell (p := ⟨b8, _, none⟩) hB8).trans e3, (hf.cell (p := ⟨b8, _, none⟩) hB8).trans e4, (hf.cell (p := ⟨b8, _, none⟩) hB8).trans e5, (hf.cell (p := ⟨b8, _, none⟩) hB8).trans e6⟩)
              have HDN := Lib.hid (down_fit m hc hy)
              have HCALL := Lib.hid (fun V ys (h : N ys V) => HIH.out m.nodes[i] hy (d + 1) hdk (by omega) Sp2 cp2 Sk2 ck2 Sr2 cr2 V ys (HNO.out _ _ h).far (HNO.out _ _ h).env (HNO.out _ _ h).hold (HNO.out _ _ h).len hp9 hk9 hr9)
              rw [show ((d + 1 - 1 : Nat) : Int) = (d : Int) from rfl] at HCALL
              obtain ⟨yn, hyn⟩ : ∃ yn, m.nodes[i] = yn := ⟨_, rfl⟩
              have i0 : (0 : Int) ≤ i := by omega
              have i1 : (i : Int) < m.nodes.length := by omega
              clear e0 e1 e2 e3 e4 e5 e6 hp9 hk9 hr9 hdk hy hkm hyk hY hyi
              rw [hyn] at HQS HDN HCALL HLX d0
              clear hyn
              go_upto_region 18 with fail
              clear d0
              obtain ⟨ud, hu⟩ : ∃ z : World, wr.drew = z := ⟨_, rfl⟩
              have NS2 : Hid (N Y ud) := Lib.hid (by rw [← hu]; exact HNB.out _ _ _ NS.out (Below.refl _ _).drew)
              clear NS
              have NS := NS2
              clear NS2
              have HQ0 := HQS.out _ _ NS.out
              refine wp_region_S (S := (fun w' : World => w'.cell? ⟨p10, 0, none⟩ = some (.func (.func 17) #[] #[.pointer (some ⟨p9, 0, none⟩), .pointer (some ⟨p10, 0, none⟩), .pointer (some ⟨p1, 0, none⟩), .pointer (some ⟨p5, 0, none⟩)]) ∧ w'.cell? ⟨p1, 1, none⟩ = some (.slice (some ⟨b8, o8, none⟩) m.nodes.length c) ∧ w'.cell? ⟨p5, 0, none⟩ = some (.map (some mb)) ∧ (Instr.lookup 40 (.map (some mb)) (.int .i64 yn.id) false).run Tryd.prog w' = .ok (.int .i64 i) w' ∧ w'.cell? ⟨b8, o8 + i * 7, none⟩ = some (.int .i64 yn.id) ∧ w'.cell? ⟨b8, o8 + i * 7 + 1, none⟩ = some (.string yn.concept) ∧ w'.cell? ⟨b8, o8 + i * 7 + 2, none⟩ = some (.int .i64 yn.parent) ∧ w'.cell? ⟨b8, o8 + i * 7 + 3, none⟩ = some (.string yn.role) ∧ w'.cell? ⟨b8, o8 + i * 7 + 4, none⟩ = some (.slice Sp2 yn.props.length cp2) ∧ w'.cell? ⟨b8, o8 + i * 7 + 5, none⟩ = some (.slice Sk2 yn.kids.length ck2) ∧ w'.cell? ⟨b8, o8 + i * 7 + 6, none⟩ = some (.slice Sr2 yn.refs.length cr2))) (by kernel_rfl) (by rw [hu]; exact HQ0) (fun hHeld => ?_)
              rw [hu] at hHeld ⊢
              clear hu
              refine wpAnyS_take (i := 0) (v := ?_) rfl (by kernel_rfl) (by kernel_rfl) (by kernel_rfl) (fun _ _ _ h => h) (Or.inl ⟨by rfl, ?_⟩) (by assumption) ?_
              rotate_left 1
              · (intro w' hSw; obtain ⟨s0, s1, s2, s3, s4, s5, s6, s7, s8, s9, s10⟩ := hSw; go_simp); try with_reducible rfl
              try simp only [Act.put, List.setIfInBounds_toArray, List.set_cons_zero, List.set_cons_succ, Nat.zero_add]
              refine wpAnyS_take (i := 1) (v := ?_) rfl (by kernel_rfl) (by kernel_rfl) (by kernel_rfl) (fun _ _ _ h => h) (Or.inl ⟨by rfl, ?_⟩) (by assumption) ?_
              rotate_left 1
              · (intro w' hSw; obtain ⟨s0, s1, s2, s3, s4, s5, s6, s7, s8, s9, s10⟩ := hSw; go_simp); try with_reducible rfl
              try simp only [Act.put, List.setIfInBounds_toArray, List.set_cons_zero, List.set_cons_succ, Nat.zero_add]
              refine wpAnyS_take (i := 2) (v := ?_) rfl (by kernel_rfl) (by kernel_rfl) (by kernel_rfl) (fun _ _ _ h => h) (Or.inl ⟨by rfl, ?_⟩) (by assumption) ?_
              rotate_left 1
              · (intro w' hSw; obtain ⟨s0, s1, s2, s3, s4, s5, s6, s7, s8, s9, s10⟩ := hSw; go_simp); try with_reducible rfl
              try simp only [Act.put, List.setIfInBounds_toArray, List.set_cons_zero, List.set_cons_succ, Nat.zero_add]
              refine wpAnyS_take (i := 3) (v := ?_) rfl (by kernel_rfl) (by kernel_rfl) (by kernel_rfl) (fun _ _ _ h => h) (Or.inl ⟨by rfl, ?_⟩) (by assumption) ?_
              rotate_left 1
              · (intro w' hSw; obtain ⟨s0, s1, s2, s3, s4, s5, s6, s7, s8, s9, s10⟩ := hSw; go_simp); try with_reducible rfl
              try simp only [Act.put, List.setIfInBounds_toArray, List.set_cons_zero, List.set_cons_succ, Nat.zero_add]
              refine wpAnyS_take (i := 4) (v := ?_) rfl (by kernel_rfl) (by kernel_rfl) (by kernel_rfl) (fun _ _ _ h => h) (Or.inl ⟨by rfl, ?_⟩) (by assumption) ?_
              rotate_left 1
              · (intro w' hSw; obtain ⟨s0, s1, s2, s3, s4, s5, s6, s7, s8, s9, s10⟩ := hSw; go_simp); try with_reducible rfl
              try simp only [Act.put, List.setIfInBounds_toArray, List.set_cons_zero, List.set_cons_succ, Nat.zero_add]
              refine wpAnyS_take (i := 5) (v := ?_) rfl (by kernel_rfl) (by kernel_rfl) (by kernel_rfl) (fun _ _ _ h => h) (Or.inl ⟨by rfl, ?_⟩) (by assumption) ?_
              rotate_left 1
              · (intro w' hSw; obtain ⟨s0, s1, s2, s3, s4, s5, s6, s7, s8, s9, s10⟩ := hSw; go_simp); try with_reducible rfl
              try simp only [Act.put, List.setIfInBounds_toArray, List.set_cons_zero, List.set_cons_succ, Nat.zero_add]
              refine wpAnyS_take (i := 6) (v := ?_) rfl (by kernel_rfl) (by kernel_rfl) (by kernel_rfl) (fun _ _ _ h => h) (Or.inl ⟨by rfl, ?_⟩) (by assumption) ?_
              rotate_left 1
              · (intro w' hSw; obtain ⟨s0, s1, s2, s3, s4, s5, s6, s7, s8, s9, s10⟩ := hSw; go_simp); try with_reducible rfl
              try simp only [Act.put, List.setIfInBounds_toArray, List.set_cons_zero, List.set_cons_succ, Nat.zero_add]
              refine wpAnyS_take (i := 7) (v := ?_) rfl (by kernel_rfl) (by kernel_rfl) (by kernel_rfl) (fun _ _ _ h => h) (Or.inl ⟨by rfl, ?_⟩) (by assumption) ?_
              rotate_left 1
              · (intro w' hSw; obtain ⟨s0, s1, s2, s3, s4, s5, s6, s7, s8, s9, s10⟩ := hSw; go_simp); try with_reducible rfl
              try simp only [Act.put, List.setIfInBounds_toArray, List.set_cons_zero, List.set_cons_succ, Nat.zero_add]
              refine wpAnyS_take (i := 8) (v := ?_) rfl (by kernel_rfl) (by kernel_rfl) (by kernel_rfl) (fun _ _ _ h => h) (Or.inl ⟨by rfl, ?_⟩) (by assumption) ?_
              rotate_left 1
              · (intro w' hSw; obtain ⟨s0, s1, s2, s3, s4, s5, s6, s7, s8, s9, s10⟩ := hSw; go_simp); try with_reducible rfl
              try simp only [Act.put, List.setIfInBounds_toArray, List.set_cons_zero, List.set_cons_succ, Nat.zero_add]
              refine wpAnyS_take (i := 9) (v := ?_) rfl (by kernel_rfl) (by kernel_rfl) (by kernel_rfl) (fun _ _ _ h => h) (Or.inl ⟨by rfl, ?_⟩) (by assumption) ?_
              rotate_left 1
              · (intro w' hSw; obtain ⟨s0, s1, s2, s3, s4, s5, s6, s7, s8, s9, s10⟩ := hSw; go_simp); try with_reducible rfl
              try simp only [Act.put, List.setIfInBounds_toArray, List.set_cons_zero, List.set_cons_succ, Nat.zero_add]
              refine wpAnyS_one (i := 10) rfl (by kernel_rfl) (fun K hK => ?_)
              go_simp
              refine (HCALL.out _ _ NS.out).mono ?_
              rintro _ v3 ⟨rfl, hx3, hb3, he3⟩
              have NS3 := Lib.hid (HNW.out _ _ _ _ NS.out hx3 hb3 he3 (emits_len (HNO.out _ _ NS.out).len HDN.out))
              clear hx3 hb3 he3 NS
              have NS := NS3
              clear NS3
              have HQ3 := HQS.out _ _ NS.out
              go_simp
              refine hK.out _ _ HQ3 ?_
              clear hK K
              try simp only [Act.put, List.setIfInBounds_toArray, List.set_cons_zero, List.set_cons_succ, Nat.zero_add]
              refine wpAnyS_done (by kernel_rfl) ?_ _
              clear HQS HQ0 HQ3 HCALL HDN
              go_wp2_with fail
              go_roundg (x.kids.length - (j + 1))
              case measure => omega
              case rel => exact ⟨j + 1, by go_num, rfl, by omega, by rw [HLX.out]; exact NS.out⟩
            obtain rfl : j = x.kids.length := by omega
            have hlt' : ¬ (x.kids.length : Int) < x.kids.length := by omega
            rw [show x.kids.take x.kids.length = x.kids from List.take_length] at NS
            obtain ⟨X4, hX2⟩ : ∃ X, emits X3 ((x.kids).flatMap (downLs m)) = X := ⟨_, rfl⟩
            rw [hX2] at NS HNE
            clear hX2 hlt
            go_wp2_with fail
            go_end0
            exact ⟨rfl, by rw [← HNE.out]; exact (HNO.out _ _ NS.out).hold, (HNO.out _ _ NS.out).near, (HNO.out _ _ NS.out).bes⟩
end Go.Proofs.YtpkapommekkbcaaDoor
