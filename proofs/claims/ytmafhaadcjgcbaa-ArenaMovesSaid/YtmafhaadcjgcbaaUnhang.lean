/- a node is taken out of its parent's kids: arena.unhang -/
import Derived.Test.YtmafhaadcjgcbaaMoveP
import Derived.Lib.QuietBelow
set_option linter.unusedSimpArgs false
set_option linter.unusedVariables false
namespace Go.Proofs.Ytmafhaadcjgcbaa
open Go Go.RowKit

theorem unhang1_any (k id : Int) (g : Nat) (w : World) (h : Blk w g 3 #[.int .i64 id]) :
    Calls Try.prog 128 #[.int .i64 k, .pointer (some ⟨g, 0, none⟩)] w fun e w' => e = .returned (.bool (k == id)) ∧ Below w.heap.size w w' := by
  have c0 := h.cell 0
  have hlt := h.lt
  simp at c0
  clear h
  go_enter Try.func128, Try.ntmps128
  go_wp2
  go_ret
  exact ⟨rfl, Below.refl _ _⟩

set_option maxRecDepth 100000 in
set_option maxHeartbeats 4000000 in
theorem unhangKid_any (next : Int) (v : Value) (l : List LN) (w : World) (base : Nat) (O : Nat → Prop) (hOO : ∀ b, some b ∈ (v.ownBlock :: allBlocks l) → O b) (hO : OwnM w base v l) (hbw : base ≤ w.heap.size) (hS : SrtB (l.map LN.n)) (hl : l.length ≤ 1048576)
    (jn : Nat) (hjn : jn < l.length) (X : LN) (hX : l[jn] = X) (jp : Nat) (hjp : jp < l.length) (Y : LN) (hY : l[jp] = Y) (hpar : X.n.parent = Y.n.id) (hk4 : Y.n.kids.length ≤ 4096) :
    Calls Try.prog 99 #[.agg #[.int .i64 next, v], .int .i64 X.n.id] w fun e w' => e = .returned (.tuple #[]) ∧
      ∃ l', OwnM w' base v l' ∧ l'.map LN.n = unhangN (l.map LN.n) X.n.parent X.n.id ∧ KeepO O w w' := by
  obtain ⟨g, cap, rfl, hnc, hcm, hgb, hgw⟩ := own_some hO.row (by omega)
  have HOG : O g := hOO g (by show some g ∈ some g :: _; exact List.mem_cons_self ..)
  have HOK : Hid (∀ b, Y.k.ownBlock = some b → O b) := Lib.hid (fun b e => hOO b (List.mem_cons_of_mem _ (mem_all (x := Y) (by rw [← hY]; exact List.getElem_mem hjp) (by simp [LN.blocks, e]))))
  obtain ⟨ns, hns⟩ : ∃ ns, l.map LN.n = ns := ⟨_, rfl⟩
  have hlen : l.length = ns.length := by rw [← hns]; simp
  have hXn : ns[jn]? = some X.n := by rw [← hns]; simp [hjn, hX]
  have hYn : ns[jp]? = some Y.n := by rw [← hns]; simp [hjp, hY]
  rw [hns] at hS ⊢
  rw [hlen] at hO ⊢
  have hjn2 : jn < ns.length := by omega
  have hXg : ns[jn] = X.n := by rw [List.getElem?_eq_getElem hjn2] at hXn; injection hXn
  have hXi := hS.2 jn hjn2
  rw [hXg] at hXi
  have hatX : atI ns X.n.id = jn := by rw [← hXg]; exact atI_some hS.1 hjn2 rfl
  have hjp2 : jp < ns.length := by omega
  have hYg : ns[jp] = Y.n := by rw [List.getElem?_eq_getElem hjp2] at hYn; injection hYn
  have hYi := hS.2 jp hjp2
  rw [hYg] at hYi
  have hatY : atI ns Y.n.id = jp := by rw [← hYg]; exact atI_some hS.1 hjp2 rfl
  have HATY := Lib.hid hatY
  have hp0 : (Y.n.id == 0) = false := beq_eq_false_iff_ne.2 (by omega)
  have hYr : InR Y.n.id := by unfold InR; omega
  have HYG := Lib.hid (show ∃ h : jp < ns.length, ns[jp]'h = Y.n from ⟨hjp2, hYg⟩)
  have HY := Lib.hid hY
  rw [hpar]
  have HPAR := Lib.hid hpar
  have HEND : Hid (ns.set jp { Y.n with kids := keepQ (fun k => k == X.n.id) Y.n.kids } = unhangN ns Y.n.id X.n.id) := Lib.hid (by
    have h := unhangN_set (id := X.n.id) hS hjp2
    rw [hYg] at h; exact h)
  have hXr : InR X.n.id := by unfold InR; omega
  have HS := Lib.hid hS; have HNS := Lib.hid hns; have HX := Lib.hid hX; have HO := Lib.hid hO
  have HATX := Lib.hid hatX
  rw [hlen] at hl
  unfold maxLen at hcm
  clear hS hns hX hO hXn hXg hatX hlen hYn hYg hatY hY hpar
  have hgm : g ≠ w.heap.size := by omega
  have hgm1 : g ≠ w.heap.size + 1 := by omega
  have HB0 := Lib.hid (((KeepO.refl O w).alloc (.cells #[.int .i64 next, .slice (some ⟨g, 0, none⟩) ns.length cap] 24)).alloc (.cells #[.int .i64 X.n.id] 3))
  have HM0 := Lib.hid ((Blk.new w 24 #[.int .i64 next, .slice (some ⟨g, 0, none⟩) ns.length cap]).alloc (.cells #[.int .i64 X.n.id] 3))
  have HI0 : Hid (Blk ((w.alloc (.cells #[.int .i64 next, .slice (some ⟨g, 0, none⟩) ns.length cap] 24)).alloc (.cells #[.int .i64 X.n.id] 3)) (w.heap.size + 1) 3 #[.int .i64 X.n.id]) := Lib.hid (Blk.new' (by simp))
  have HO0 := Lib.hid (HO.out.below (((Below.refl w.heap.size w).alloc (Nat.le_refl _) (.cells #[.int .i64 next, .slice (some ⟨g, 0, none⟩) ns.length cap] 24)).alloc (by simp) (.cells #[.int .i64 X.n.id] 3)))
  go_enter Try.func99, Try.ntmps99
  go_wp2_with fail
  obtain ⟨u0, hu0⟩ : ∃ u : World, (w.alloc (.cells #[.int .i64 next, .slice (some ⟨g, 0, none⟩) ns.length cap] 24)).alloc (.cells #[.int .i64 X.n.id] 3) = u := ⟨_, rfl⟩
  rw [hu0] at HB0 HM0 HO0 HI0
  (try rw [hu0])
  have hbu : base ≤ u0.heap.size := by rw [← hu0]; simp; omega
  clear hu0
  have hj0 : (0 : Int) ≤ jn := by omega
  have hj1 : (jn : Int) < ns.length := by omega
  have hj2 : (0 : Int) ≤ jp := by omega
  have hj3 : (jp : Int) < ns.length := by omega
  have m0 := HM0.out.cell 0; have m1 := HM0.out.cell 1
  have i0 := HI0.out.cell 0
  have hmlt := HM0.out.lt
  have hilt := HI0.out.lt
  simp at m0 m1 i0
  have c2 := HO0.out.cell (i := jn) (j := 2) hjn (by omega)
  rw [HX.out] at c2
  simp [LN.cells, nodeCellsA] at c2
  rw [HPAR.out] at c2
  have CP := Lib.hid (fun (d : Nat) (os : Array Obj) => Calls.regrown_of (w := u0) (d := d) (os := os) (by
    have ho := HO0.out.below (below_regrown u0 d os)
    have := place_any (some ⟨g, 0, none⟩) cap next X.n.id ns (Sort.grow (redrawn u0 d) os) (fun b => base ≤ b ∧ b < (Sort.grow (redrawn u0 d) os).heap.size) (fun b hb => hb.2) (by rw [← HNS.out]; exact ho.rowOf (fun b h1 h2 => ⟨h1, h2⟩)) HS.out hXr (by omega)
    rw [HATX.out] at this; exact this))
  have k0 := cell_regrown m0; have k1 := cell_regrown m1; have k2 := cell_regrown i0; have k3 := cell_regrown c2
  clear m0 m1 i0
  refine wp_region_quiet_below (by kernel_rfl) (by kernel_rfl) ?_
  repeat (first | go_big_quiet_step (exact CP.out _ _) | quiet_step (exact CP.out _ _))
  refine wpQuiet_nil ?_
  intro _ hw'
  obtain ⟨⟨dq, osq⟩, hw''⟩ := hw'
  subst hw''
  have hbr := below_regrown u0 dq osq
  have HB1 := Lib.hid (HB0.out.below hbr)
  have HM1 := Lib.hid (HM0.out.below hbr hmlt)
  have HI1 := Lib.hid (HI0.out.below hbr hilt)
  have HO1 := Lib.hid (HO0.out.below hbr)
  have hbu2 := Nat.le_trans hbu hbr.size
  clear k0 k1 k2 CP hbr k3 c2
  obtain ⟨u1, hu⟩ : ∃ z : World, Sort.grow (redrawn u0 dq) osq = z := ⟨_, rfl⟩
  rw [hu] at HB1 HM1 HO1 HI1 hbu2 ⊢
  clear hu hmlt hilt hbu
  have hbu := hbu2
  clear hbu2
  go_wp2_with fail
  have m0 := HM1.out.cell 0; have m1 := HM1.out.cell 1
  have i0 := HI1.out.cell 0
  have hmlt := HM1.out.lt
  have hilt := HI1.out.lt
  simp at m0 m1 i0
  have CP := Lib.hid (fun (d : Nat) (os : Array Obj) => Calls.regrown_of (w := u1) (d := d) (os := os) (by
    have ho := HO1.out.below (below_regrown u1 d os)
    have := place_any (some ⟨g, 0, none⟩) cap next Y.n.id ns (Sort.grow (redrawn u1 d) os) (fun b => base ≤ b ∧ b < (Sort.grow (redrawn u1 d) os).heap.size) (fun b hb => hb.2) (by rw [← HNS.out]; exact ho.rowOf (fun b h1 h2 => ⟨h1, h2⟩)) HS.out hYr (by omega)
    rw [HATY.out] at this; exact this))
  have k0 := cell_regrown m0; have k1 := cell_regrown m1; have k2 := cell_regrown i0
  clear m0 m1 i0
  refine wp_region_quiet_below (by kernel_rfl) (by kernel_rfl) ?_
  repeat (first | go_big_quiet_step (exact CP.out _ _) | quiet_step (exact CP.out _ _))
  refine wpQuiet_nil ?_
  intro _ hw'
  obtain ⟨⟨dq, osq⟩, hw''⟩ := hw'
  subst hw''
  have hbr := below_regrown u1 dq osq
  have HB2 := Lib.hid (HB1.out.below hbr)
  have HM2 := Lib.hid (HM1.out.below hbr hmlt)
  have HI2 := Lib.hid (HI1.out.below hbr hilt)
  have HO2 := Lib.hid (HO1.out.below hbr)
  have hbu2 := Nat.le_trans hbu hbr.size
  clear k0 k1 k2 CP hbr
  obtain ⟨u2, hu⟩ : ∃ z : World, Sort.grow (redrawn u1 dq) osq = z := ⟨_, rfl⟩
  rw [hu] at HB2 HM2 HO2 HI2 hbu2 ⊢
  clear hu hmlt hilt hbu
  have hbu := hbu2
  clear hbu2
  have c5 := HO2.out.cell (i := jp) (j := 5) hjp (by omega)
  rw [HY.out] at c5
  simp [LN.cells, nodeCellsA] at c5
  have hYL := HY.out
  have hol := HO2.out.lists Y (by rw [← hYL]; exact List.getElem_mem hjp)
  have hYb : Y.k.ownBlock ∈ (l[jp]).blocks := by rw [hYL]; simp [LN.blocks]
  have HNG : Hid (Y.k.ownBlock ≠ some g) := Lib.hid (fun e => HO2.out.row_ne (List.getElem_mem hjp) (b := g) (by rw [← e]; exact hYb) rfl)
  have HOL := Lib.hid hol
  obtain ⟨Ak, nk, hAk⟩ := hol.k.shape
  have HAK := Lib.hid hAk
  have HNI : Hid (Y.k.ownBlock ≠ some (w.heap.size + 1)) := Lib.hid (fun e => by
    have h1 := (HO.out.lists Y (by rw [← hYL]; exact List.getElem_mem hjp)).k.lt _ e
    omega)
  clear hYL hol hYb
  rw [hAk] at c5
  clear hAk
  have hko : u2.ownsRow base 3 1 (.slice Ak Y.n.kids.length nk) Y.n.kids.length (Y.n.kids.flatMap intCells) := by rw [intCells_map, ← HAK.out]; exact HOL.out.k
  have HDL := Lib.hid (delIntQ_any (.slice Ak Y.n.kids.length nk) Y.n.kids (fun k => k == X.n.id) (w.heap.size + 1) u2 base hko (fun x _ w' hw => unhang1_any x X.n.id (w.heap.size + 1) w' (HI2.out.grown hw (fun e => HNI.out (by rw [HAK.out]; exact e.symm)))) (by omega))
  clear hko
  go_wp2_with fail
  refine HDL.out.mono ?_
  rintro _ w6 ⟨v', rfl, hown, hg6, hat6⟩
  rw [← HAK.out] at hg6 hat6
  have HOW : Hid (OwnI w6 base v' (keepQ (fun k => k == X.n.id) Y.n.kids)) := Lib.hid (by unfold OwnI; rw [← intCells_map]; exact hown)
  obtain ⟨A6, n6, rfl⟩ := HOW.out.shape
  have hrowb := HO2.out.row.lt g rfl
  have hg6g : w6.heap[g]? = u2.heap[g]? := hg6.block g hrowb.2 (fun e => HNG.out e.symm)
  have c5 : w6.cell? ⟨g, jp * 7 + 5, none⟩ = some (.slice Ak Y.n.kids.length nk) := by
    have h := HO2.out.cell (i := jp) (j := 5) hjp (by omega)
    rw [HY.out] at h
    rw [World.cell?_of_block (w := u2) (a := ⟨g, jp * 7 + 5, none⟩) hg6g, h]
    simp [LN.cells, nodeCellsA, HAK.out]
  have z5 : w6.frozen? ⟨g, jp * 7 + 5, none⟩ = false := by
    rw [World.frozen?_of_block (w := u2) (a := ⟨g, jp * 7 + 5, none⟩) hg6g]; exact HO2.out.frozen _
  have HB6 := Lib.hid (HB2.out.grown hg6 (fun b e => HOK.out b e))
  obtain ⟨nv, hnv⟩ : ∃ z : Value, .slice A6 (keepQ (fun k => k == X.n.id) Y.n.kids).length n6 = z := ⟨_, rfl⟩
  have HB7 := Lib.hid (HB6.out.set_ HOG (jp * 7 + 5) (.slice A6 (keepQ (fun k => k == X.n.id) Y.n.kids).length n6))
  have HO7 := Lib.hid (HO2.out.setKids hjp HY.out (keepQ (fun k => k == X.n.id) Y.n.kids) (.slice A6 (keepQ (fun k => k == X.n.id) Y.n.kids).length n6) hg6 (.inl hat6) HOW.out)
  clear hown hg6 hat6 hg6g hnv nv HDL
  go_wp2
  go_end0
  exact ⟨rfl, _, HO7.out, by rw [List.map_set, HNS.out]; exact HEND.out, HB7.out⟩

set_option maxRecDepth 100000 in
set_option maxHeartbeats 4000000 in
theorem unhangRoot_any (next : Int) (v : Value) (l : List LN) (w : World) (base : Nat) (O : Nat → Prop) (hOO : ∀ b, some b ∈ (v.ownBlock :: allBlocks l) → O b) (hO : OwnM w base v l) (hbw : base ≤ w.heap.size) (hS : SrtB (l.map LN.n)) (hl : l.length ≤ 1048576)
    (jn : Nat) (hjn : jn < l.length) (X : LN) (hX : l[jn] = X) (hp : X.n.parent = 0) :
    Calls Try.prog 99 #[.agg #[.int .i64 next, v], .int .i64 X.n.id] w fun e w' => e = .returned (.tuple #[]) ∧
      ∃ l', OwnM w' base v l' ∧ l'.map LN.n = unhangN (l.map LN.n) X.n.parent X.n.id ∧ KeepO O w w' := by
  obtain ⟨g, cap, rfl, hnc, hcm, hgb, hgw⟩ := own_some hO.row (by omega)
  have HOG : O g := hOO g (by show some g ∈ some g :: _; exact List.mem_cons_self ..)
  obtain ⟨ns, hns⟩ : ∃ ns, l.map LN.n = ns := ⟨_, rfl⟩
  have hlen : l.length = ns.length := by rw [← hns]; simp
  have hXn : ns[jn]? = some X.n := by rw [← hns]; simp [hjn, hX]
  rw [hns] at hS ⊢
  rw [hlen] at hO ⊢
  have hjn2 : jn < ns.length := by omega
  have hXg : ns[jn] = X.n := by rw [List.getElem?_eq_getElem hjn2] at hXn; injection hXn
  have hXi := hS.2 jn hjn2
  rw [hXg] at hXi
  have hatX : atI ns X.n.id = jn := by rw [← hXg]; exact atI_some hS.1 hjn2 rfl
  have HP := Lib.hid hp
  have HEND : Hid (unhangN ns X.n.parent X.n.id = ns) := Lib.hid (by rw [hp]; exact unhangN_zero hS)
  rw [HEND.out]
  have hXr : InR X.n.id := by unfold InR; omega
  have HS := Lib.hid hS; have HNS := Lib.hid hns; have HX := Lib.hid hX; have HO := Lib.hid hO
  have HATX := Lib.hid hatX
  rw [hlen] at hl
  unfold maxLen at hcm
  clear hS hns hX hO hXn hXg hatX hlen hp
  have hgm : g ≠ w.heap.size := by omega
  have hgm1 : g ≠ w.heap.size + 1 := by omega
  have HB0 := Lib.hid (((KeepO.refl O w).alloc (.cells #[.int .i64 next, .slice (some ⟨g, 0, none⟩) ns.length cap] 24)).alloc (.cells #[.int .i64 X.n.id] 3))
  have HM0 := Lib.hid ((Blk.new w 24 #[.int .i64 next, .slice (some ⟨g, 0, none⟩) ns.length cap]).alloc (.cells #[.int .i64 X.n.id] 3))
  have HI0 : Hid (Blk ((w.alloc (.cells #[.int .i64 next, .slice (some ⟨g, 0, none⟩) ns.length cap] 24)).alloc (.cells #[.int .i64 X.n.id] 3)) (w.heap.size + 1) 3 #[.int .i64 X.n.id]) := Lib.hid (Blk.new' (by simp))
  have HO0 := Lib.hid (HO.out.below (((Below.refl w.heap.size w).alloc (Nat.le_refl _) (.cells #[.int .i64 next, .slice (some ⟨g, 0, none⟩) ns.length cap] 24)).alloc (by simp) (.cells #[.int .i64 X.n.id] 3)))
  go_enter Try.func99, Try.ntmps99
  go_wp2_with fail
  obtain ⟨u0, hu0⟩ : ∃ u : World, (w.alloc (.cells #[.int .i64 next, .slice (some ⟨g, 0, none⟩) ns.length cap] 24)).alloc (.cells #[.int .i64 X.n.id] 3) = u := ⟨_, rfl⟩
  rw [hu0] at HB0 HM0 HO0 HI0
  (try rw [hu0])
  have hbu : base ≤ u0.heap.size := by rw [← hu0]; simp; omega
  clear hu0
  have hj0 : (0 : Int) ≤ jn := by omega
  have hj1 : (jn : Int) < ns.length := by omega
  have m0 := HM0.out.cell 0; have m1 := HM0.out.cell 1
  have i0 := HI0.out.cell 0
  have hmlt := HM0.out.lt
  have hilt := HI0.out.lt
  simp at m0 m1 i0
  have c2 := HO0.out.cell (i := jn) (j := 2) hjn (by omega)
  rw [HX.out] at c2
  simp [LN.cells, nodeCellsA] at c2
  rw [HP.out] at c2
  have CP := Lib.hid (fun (d : Nat) (os : Array Obj) => Calls.regrown_of (w := u0) (d := d) (os := os) (by
    have ho := HO0.out.below (below_regrown u0 d os)
    have := place_any (some ⟨g, 0, none⟩) cap next X.n.id ns (Sort.grow (redrawn u0 d) os) (fun b => base ≤ b ∧ b < (Sort.grow (redrawn u0 d) os).heap.size) (fun b hb => hb.2) (by rw [← HNS.out]; exact ho.rowOf (fun b h1 h2 => ⟨h1, h2⟩)) HS.out hXr (by omega)
    rw [HATX.out] at this; exact this))
  have k0 := cell_regrown m0; have k1 := cell_regrown m1; have k2 := cell_regrown i0; have k3 := cell_regrown c2
  clear m0 m1 i0
  refine wp_region_quiet_below (by kernel_rfl) (by kernel_rfl) ?_
  repeat (first | go_big_quiet_step (exact CP.out _ _) | quiet_step (exact CP.out _ _))
  refine wpQuiet_nil ?_
  intro _ hw'
  obtain ⟨⟨dq, osq⟩, hw''⟩ := hw'
  subst hw''
  have hbr := below_regrown u0 dq osq
  have HB1 := Lib.hid (HB0.out.below hbr)
  have HM1 := Lib.hid (HM0.out.below hbr hmlt)
  have HI1 := Lib.hid (HI0.out.below hbr hilt)
  have HO1 := Lib.hid (HO0.out.below hbr)
  have hbu2 := Nat.le_trans hbu hbr.size
  clear k0 k1 k2 CP hbr k3 c2
  obtain ⟨u1, hu⟩ : ∃ z : World, Sort.grow (redrawn u0 dq) osq = z := ⟨_, rfl⟩
  rw [hu] at HB1 HM1 HO1 HI1 hbu2 ⊢
  clear hu hmlt hilt hbu
  have hbu := hbu2
  clear hbu2
  have hp0 : ((0 : Int) == 0) = true := by decide
  go_wp2
  refine bodyPost_ret (results_none rfl _ _ _) rfl ?_
  exact ⟨rfl, _, HO1.out, HNS.out, HB1.out⟩

/-- either way -/
theorem unhang_any (next : Int) (v : Value) (l : List LN) (w : World) (base : Nat) (O : Nat → Prop) (hOO : ∀ b, some b ∈ (v.ownBlock :: allBlocks l) → O b) (hO : OwnM w base v l) (hbw : base ≤ w.heap.size) (hS : SrtB (l.map LN.n)) (hl : l.length ≤ 1048576) (hk4 : ∀ y ∈ l.map LN.n, y.kids.length ≤ 4096)
    (x : ANode) (hx : x ∈ l.map LN.n) (hp : x.parent = 0 ∨ ∃ y ∈ l.map LN.n, x.parent = y.id) :
    Calls Try.prog 99 #[.agg #[.int .i64 next, v], .int .i64 x.id] w fun e w' => e = .returned (.tuple #[]) ∧
      ∃ l', OwnM w' base v l' ∧ l'.map LN.n = unhangN (l.map LN.n) x.parent x.id ∧ KeepO O w w' := by
  obtain ⟨X, hX, rfl⟩ := List.mem_map.1 hx
  obtain ⟨jn, hjn, rfl⟩ := List.getElem_of_mem hX
  rcases hp with hp | ⟨y, hy, hp⟩
  · exact unhangRoot_any next v l w base O hOO hO hbw hS hl jn hjn _ rfl hp
  · obtain ⟨Y, hY, rfl⟩ := List.mem_map.1 hy
    obtain ⟨jp, hjp, rfl⟩ := List.getElem_of_mem hY
    have := unhangKid_any next v l w base O hOO hO hbw hS hl jn hjn _ rfl jp hjp _ rfl hp (hk4 _ (List.mem_map.2 ⟨_, hY, rfl⟩))
    exact this
end Go.Proofs.Ytmafhaadcjgcbaa
