import Derived.Test.YtmafhaadcjgcbaaDelQ
import Derived.Test.YtmafhaadcjgcbaaGoal
import Derived.Test.YtmafhaadcjgcbaaCopyK
import Derived.Lib.QuietBelow
import Derived.Test.YtmafhaadcjgcbaaAUnder2
import Derived.Test.YtmafhaadcjgcbaaADown
import Derived.Test.YtmafhaadcjgcbaaATellsA
import Derived.Test.YtmafhaadcjgcbaaRegY
import Derived.Test.YtmafhaadcjgcbaaHang
import Derived.Test.YtmafhaadcjgcbaaQTail
import Derived.Test.YtmafhaadcjgcbaaAddP
import Derived.Test.YtmafhaadcjgcbaaShelf
set_option linter.unusedSimpArgs false
set_option linter.unusedVariables false
section
/- moving nodes, in plain Lean: taken out, put in; lists of a node's own written -/
namespace Go.Proofs.Ytmafhaadcjgcbaa
open Go Go.RowKit

/-- a node is no one's kid any more -/
def unhangN (ns : List ANode) (p id : Int) : List ANode := ns.map fun y => if y.id = p then { y with kids := keepQ (fun k => k == id) y.kids } else y
/-- a node that hangs nowhere is put below another, or among the roots -/
def placeN (ns : List ANode) (id p : Int) (role : ByteArray) (i : Nat) : List ANode := ns.map fun y => if y.id = id then { y with parent := p, role := role } else if y.id = p then { y with kids := insAt y.kids i id } else y
section
variable {ns : List ANode} {p id : Int}
theorem srtB_inj (h : SrtB ns) {i j : Nat} (hi : i < ns.length) (hj : j < ns.length) (e : ns[i].id = ns[j].id) : i = j := h.1.inj hi hj e
theorem unhangN_len (ns : List ANode) (p id : Int) : (unhangN ns p id).length = ns.length := List.length_map _
theorem unhangN_at (i : Nat) (hi : i < ns.length) : (unhangN ns p id)[i]'(by rw [unhangN_len]; exact hi) = if ns[i].id = p then { ns[i] with kids := keepQ (fun k => k == id) ns[i].kids } else ns[i] := List.getElem_map _
theorem unhangN_ids (ns : List ANode) (p id : Int) : (unhangN ns p id).map (·.id) = ns.map (·.id) := by
  unfold unhangN
  rw [List.map_map]
  apply List.map_congr_left
  intro y _
  show (if y.id = p then _ else y : ANode).id = y.id
  by_cases h : y.id = p
  · rw [if_pos h]
  · rw [if_neg h]
theorem unhangN_none (h : ∀ y ∈ ns, y.id ≠ p) : unhangN ns p id = ns := by
  unfold unhangN
  conv => rhs; rw [← List.map_id ns]
  apply List.map_congr_left
  intro y hy
  rw [if_neg (h y hy)]; rfl
theorem unhangN_zero (h : SrtB ns) : unhangN ns 0 id = ns := unhangN_none fun y hy => by
  obtain ⟨i, hi, rfl⟩ := List.getElem_of_mem hy
  have := (h.2 i hi).1; omega
theorem unhangN_set (h : SrtB ns) {j : Nat} (hj : j < ns.length) : ns.set j { ns[j] with kids := keepQ (fun k => k == id) ns[j].kids } = unhangN ns ns[j].id id := by
  apply List.ext_getElem (by rw [List.length_set, unhangN_len])
  intro i h1 h2
  rw [List.length_set] at h1
  rw [unhangN_at i h1]
  by_cases e : i = j
  · subst e
    rw [List.getElem_set_self, if_pos rfl]
  · rw [List.getElem_set_ne (Ne.symm e), if_neg (fun h3 => e (srtB_inj h h1 hj h3))]
theorem unhangN_srt (h : SrtB ns) : SrtB (unhangN ns p id) := srtB_congr h (unhangN_ids ns p id)
theorem placeN_len (ns : List ANode) (id p : Int) (role : ByteArray) (i : Nat) : (placeN ns id p role i).length = ns.length := List.length_map _
theorem placeN_at {role : ByteArray} {q : Nat} (i : Nat) (hi : i < ns.length) : (placeN ns id p role q)[i]'(by rw [placeN_len]; exact hi) = if ns[i].id = id then { ns[i] with parent := p, role := role } else if ns[i].id = p then { ns[i] with kids := insAt ns[i].kids q id } else ns[i] := List.getElem_map _
theorem placeN_root (h : SrtB ns) {j : Nat} (hj : j < ns.length) (role : ByteArray) (q : Nat) : ns.set j { ns[j] with parent := 0, role := role } = placeN ns ns[j].id 0 role q := by
  apply List.ext_getElem (by rw [List.length_set, placeN_len])
  intro i h1 h2
  rw [List.length_set] at h1
  rw [placeN_at i h1]
  by_cases e : i = j
  · subst e
    rw [List.getElem_set_self, if_pos rfl]
  · rw [List.getElem_set_ne (Ne.symm e), if_neg (fun h3 => e (srtB_inj h h1 hj h3)), if_neg (by have := (h.2 i h1).1; omega)]
theorem placeN_kid (h : SrtB ns) {j k : Nat} (hj : j < ns.length) (hk : k < ns.length) (hne : k ≠ j) (role : ByteArray) (q : Nat) : (ns.set j { ns[j] with parent := ns[k].id, role := role }).set k { ns[k] with kids := insAt ns[k].kids q ns[j].id } = placeN ns ns[j].id ns[k].id role q := by
  apply List.ext_getElem (by rw [List.length_set, List.length_set, placeN_len])
  intro i h1 h2
  have h0 : i < ns.length := by simpa using h1
  rw [placeN_at i h0]
  by_cases e : i = k
  · subst e
    rw [List.getElem_set_self, if_neg (fun h3 => hne (srtB_inj h h0 hj h3)), if_pos rfl]
  · rw [List.getElem_set_ne (Ne.symm e)]
    by_cases e2 : i = j
    · subst e2
      rw [List.getElem_set_self, if_pos rfl]
    · rw [List.getElem_set_ne (Ne.symm e2), if_neg (fun h3 => e2 (srtB_inj h h0 hj h3)), if_neg (fun h3 => e (srtB_inj h h0 hk h3))]
end
section
variable {w w' : World} {base g n cap : Nat} {v : Value} {l : List LN}
theorem OwnM.setKids (h : OwnM w base (.slice (some ⟨g, 0, none⟩) n cap) l) {j : Nat} (hj : j < l.length) {Y : LN} (hY : l[j] = Y) (ks : List Int) (new : Value) (hg : w.grownBy w' Y.k.ownBlock) (hat : new.ownBlock = Y.k.ownBlock ∨ new.ownBlock = none ∨ ∃ b, new.ownBlock = some b ∧ w.heap.size ≤ b)
    (hown : OwnI w' base new ks) : OwnM (w'.setCell ⟨g, j * 7 + 5, none⟩ new) base (.slice (some ⟨g, 0, none⟩) n cap) (l.set j ⟨{ Y.n with kids := ks }, Y.p, new, Y.r⟩) := by
  have hYm : Y ∈ l := by rw [← hY]; exact List.getElem_mem hj
  have hc := h.cnt hj
  refine h.setList hj (j := 5) (by omega) _ Y.k new hg (by rw [hY]; simp [LN.blocks]) hat (by rw [hY]; rfl) (fun o => ?_) (fun hk => ?_) (fun b hb e => ?_)
  · rw [hY]; simp only [LN.blocks, List.count_cons, List.count_nil]; omega
  · rw [hY] at hk hc
    have hol := h.lists Y hYm
    refine ⟨own_keep hol.p fun b e => hk b (by simp [LN.blocks, e]) ?_, hown, own_keep hol.r fun b e => hk b (by simp [LN.blocks, e]) ?_⟩
    · intro e2
      have h3 := hc b
      have : 2 ≤ Y.blocks.count (some b) := by simp [LN.blocks, List.count_cons, e, ← e2]
      omega
    · intro e2
      have h3 := hc b
      have : 2 ≤ Y.blocks.count (some b) := by simp [LN.blocks, List.count_cons, e, ← e2]
      omega
  · subst e
    have hrow := h.row_ne hYm (b := b)
    simp only [LN.blocks, List.mem_cons, List.not_mem_nil, or_false] at hb hrow
    rcases hb with hb | hb | hb
    · exact hrow (.inl hb) rfl
    · rcases hat with e | e | ⟨b2, e, hb2⟩
      · exact hrow (.inr (.inl (hb.trans e))) rfl
      · rw [e] at hb; cases hb
      · have hbb : b = b2 := by have := hb.trans e; injection this
        have := h.row.lt b rfl
        omega
    · exact hrow (.inr (.inr hb)) rfl
end
end Go.Proofs.Ytmafhaadcjgcbaa
end
section
/- a node is taken out of its parent's kids: arena.unhang -/
namespace Go.Proofs.Ytmafhaadcjgcbaa
open Go Go.RowKit

theorem unhang1_any (k id : Int) (g : Nat) (w : World) (h : Blk w g 3 #[.int .i64 id]) :
    Calls Try.prog 128 #[.int .i64 k, .pointer (some ⟨g, 0, none⟩)] w fun e w' => e = .returned (.bool (k == id)) ∧ Below w.heap.size w w' := by
  have c0 := h.cell 0
  have hlt := h.lt
  simp at c0
  clear h
  go_enter Try.func128, Try.ntmps128
  go_wp2
  go_ret
  exact ⟨rfl, Below.refl _ _⟩

set_option maxRecDepth 100000 in
set_option maxHeartbeats 4000000 in
theorem unhangKid_any (next : Int) (v : Value) (l : List LN) (w : World) (base : Nat) (O : Nat → Prop) (hOO : ∀ b, some b ∈ (v.ownBlock :: allBlocks l) → O b) (hO : OwnM w base v l) (hbw : base ≤ w.heap.size) (hS : SrtB (l.map LN.n)) (hl : l.length ≤ 1048576)
    (jn : Nat) (hjn : jn < l.length) (X : LN) (hX : l[jn] = X) (jp : Nat) (hjp : jp < l.length) (Y : LN) (hY : l[jp] = Y) (hpar : X.n.parent = Y.n.id) (hk4 : Y.n.kids.length ≤ 4096) :
    Calls Try.prog 99 #[.agg #[.int .i64 next, v], .int .i64 X.n.id] w fun e w' => e = .returned (.tuple #[]) ∧
      ∃ l', OwnM w' base v l' ∧ l'.map LN.n = unhangN (l.map LN.n) X.n.parent X.n.id ∧ KeepO O w w' := by
  obtain ⟨g, cap, rfl, hnc, hcm, hgb, hgw⟩ := own_some hO.row (by omega)
  have HOG : O g := hOO g (by show some g ∈ some g :: _; exact List.mem_cons_self ..)
  have HOK : Hid (∀ b, Y.k.ownBlock = some b → O b) := Lib.hid (fun b e => hOO b (List.mem_cons_of_mem _ (mem_all (x := Y) (by rw [← hY]; exact List.getElem_mem hjp) (by simp [LN.blocks, e]))))
  obtain ⟨ns, hns⟩ : ∃ ns, l.map LN.n = ns := ⟨_, rfl⟩
  have hlen : l.length = ns.length := by rw [← hns]; simp
  have hXn : ns[jn]? = some X.n := by rw [← hns]; simp [hjn, hX]
  have hYn : ns[jp]? = some Y.n := by rw [← hns]; simp [hjp, hY]
  rw [hns] at hS ⊢
  rw [hlen] at hO ⊢
  have hjn2 : jn < ns.length := by omega
  have hXg : ns[jn] = X.n := by rw [List.getElem?_eq_getElem hjn2] at hXn; injection hXn
  have hXi := hS.2 jn hjn2
  rw [hXg] at hXi
  have hatX : atI ns X.n.id = jn := by rw [← hXg]; exact atI_some hS.1 hjn2 rfl
  have hjp2 : jp < ns.length := by omega
  have hYg : ns[jp] = Y.n := by rw [List.getElem?_eq_getElem hjp2] at hYn; injection hYn
  have hYi := hS.2 jp hjp2
  rw [hYg] at hYi
  have hatY : atI ns Y.n.id = jp := by rw [← hYg]; exact atI_some hS.1 hjp2 rfl
  have HATY := Lib.hid hatY
  have hp0 : (Y.n.id == 0) = false := beq_eq_false_iff_ne.2 (by omega)
  have hYr : InR Y.n.id := by unfold InR; omega
  have HYG := Lib.hid (show ∃ h : jp < ns.length, ns[jp]'h = Y.n from ⟨hjp2, hYg⟩)
  have HY := Lib.hid hY
  rw [hpar]
  have HPAR := Lib.hid hpar
  have HEND : Hid (ns.set jp { Y.n with kids := keepQ (fun k => k == X.n.id) Y.n.kids } = unhangN ns Y.n.id X.n.id) := Lib.hid (by
    have h := unhangN_set (id := X.n.id) hS hjp2
    rw [hYg] at h; exact h)
  have hXr : InR X.n.id := by unfold InR; omega
  have HS := Lib.hid hS; have HNS := Lib.hid hns; have HX := Lib.hid hX; have HO := Lib.hid hO
  have HATX := Lib.hid hatX
  rw [hlen] at hl
  unfold maxLen at hcm
  clear hS hns hX hO hXn hXg hatX hlen hYn hYg hatY hY hpar
  have hgm : g ≠ w.heap.size := by omega
  have hgm1 : g ≠ w.heap.size + 1 := by omega
  have HB0 := Lib.hid (((KeepO.refl O w).alloc (.cells #[.int .i64 next, .slice (some ⟨g, 0, none⟩) ns.length cap] 24)).alloc (.cells #[.int .i64 X.n.id] 3))
  have HM0 := Lib.hid ((Blk.new w 24 #[.int .i64 next, .slice (some ⟨g, 0, none⟩) ns.length cap]).alloc (.cells #[.int .i64 X.n.id] 3))
  have HI0 : Hid (Blk ((w.alloc (.cells #[.int .i64 next, .slice (some ⟨g, 0, none⟩) ns.length cap] 24)).alloc (.cells #[.int .i64 X.n.id] 3)) (w.heap.size + 1) 3 #[.int .i64 X.n.id]) := Lib.hid (Blk.new' (by simp))
  have HO0 := Lib.hid (HO.out.below (((Below.refl w.heap.size w).alloc (Nat.le_refl _) (.cells #[.int .i64 next, .slice (some ⟨g, 0, none⟩) ns.length cap] 24)).alloc (by simp) (.cells #[.int .i64 X.n.id] 3)))
  go_enter Try.func99, Try.ntmps99
  go_wp2_with fail
  obtain ⟨u0, hu0⟩ : ∃ u : World, (w.alloc (.cells #[.int .i64 next, .slice (some ⟨g, 0, none⟩) ns.length cap] 24)).alloc (.cells #[.int .i64 X.n.id] 3) = u := ⟨_, rfl⟩
  rw [hu0] at HB0 HM0 HO0 HI0
  (try rw [hu0])
  have hbu : base ≤ u0.heap.size := by rw [← hu0]; simp; omega
  clear hu0
  have hj0 : (0 : Int) ≤ jn := by omega
  have hj1 : (jn : Int) < ns.length := by omega
  have hj2 : (0 : Int) ≤ jp := by omega
  have hj3 : (jp : Int) < ns.length := by omega
  have m0 := HM0.out.cell 0; have m1 := HM0.out.cell 1
  have i0 := HI0.out.cell 0
  have hmlt := HM0.out.lt
  have hilt := HI0.out.lt
  simp at m0 m1 i0
  have c2 := HO0.out.cell (i := jn) (j := 2) hjn (by omega)
  rw [HX.out] at c2
  simp [LN.cells, nodeCellsA] at c2
  rw [HPAR.out] at c2
  have CP := Lib.hid (fun (d : Nat) (os : Array Obj) => Calls.regrown_of (w := u0) (d := d) (os := os) (by
    have ho := HO0.out.below (below_regrown u0 d os)
    have := place_any (some ⟨g, 0, none⟩) cap next X.n.id ns (Sort.grow (redrawn u0 d) os) (fun b => base ≤ b ∧ b < (Sort.grow (redrawn u0 d) os).heap.size) (fun b hb => hb.2) (by rw [← HNS.out]; exact ho.rowOf (fun b h1 h2 => ⟨h1, h2⟩)) HS.out hXr (by omega)
    rw [HATX.out] at this; exact this))
  have k0 := cell_regrown m0; have k1 := cell_regrown m1; have k2 := cell_regrown i0; have k3 := cell_regrown c2
  clear m0 m1 i0
  refine wp_region_quiet_below (by kernel_rfl) (by kernel_rfl) ?_
  repeat (first | go_big_quiet_step (exact CP.out _ _) | quiet_step (exact CP.out _ _))
  refine wpQuiet_nil ?_
  intro _ hw'
  obtain ⟨⟨dq, osq⟩, hw''⟩ := hw'
  subst hw''
  have hbr := below_regrown u0 dq osq
  have HB1 := Lib.hid (HB0.out.below hbr)
  have HM1 := Lib.hid (HM0.out.below hbr hmlt)
  have HI1 := Lib.hid (HI0.out.below hbr hilt)
  have HO1 := Lib.hid (HO0.out.below hbr)
  have hbu2 := Nat.le_trans hbu hbr.size
  clear k0 k1 k2 CP hbr k3 c2
  obtain ⟨u1, hu⟩ : ∃ z : World, Sort.grow (redrawn u0 dq) osq = z := ⟨_, rfl⟩
  rw [hu] at HB1 HM1 HO1 HI1 hbu2 ⊢
  clear hu hmlt hilt hbu
  have hbu := hbu2
  clear hbu2
  go_wp2_with fail
  have m0 := HM1.out.cell 0; have m1 := HM1.out.cell 1
  have i0 := HI1.out.cell 0
  have hmlt := HM1.out.lt
  have hilt := HI1.out.lt
  simp at m0 m1 i0
  have CP := Lib.hid (fun (d : Nat) (os : Array Obj) => Calls.regrown_of (w := u1) (d := d) (os := os) (by
    have ho := HO1.out.below (below_regrown u1 d os)
    have := place_any (some ⟨g, 0, none⟩) cap next Y.n.id ns (Sort.grow (redrawn u1 d) os) (fun b => base ≤ b ∧ b < (Sort.grow (redrawn u1 d) os).heap.size) (fun b hb => hb.2) (by rw [← HNS.out]; exact ho.rowOf (fun b h1 h2 => ⟨h1, h2⟩)) HS.out hYr (by omega)
    rw [HATY.out] at this; exact this))
  have k0 := cell_regrown m0; have k1 := cell_regrown m1; have k2 := cell_regrown i0
  clear m0 m1 i0
  refine wp_region_quiet_below (by kernel_rfl) (by kernel_rfl) ?_
  repeat (first | go_big_quiet_step (exact CP.out _ _) | quiet_step (exact CP.out _ _))
  refine wpQuiet_nil ?_
  intro _ hw'
  obtain ⟨⟨dq, osq⟩, hw''⟩ := hw'
  subst hw''
  have hbr := below_regrown u1 dq osq
  have HB2 := Lib.hid (HB1.out.below hbr)
  have HM2 := Lib.hid (HM1.out.below hbr hmlt)
  have HI2 := Lib.hid (HI1.out.below hbr hilt)
  have HO2 := Lib.hid (HO1.out.below hbr)
  have hbu2 := Nat.le_trans hbu hbr.size
  clear k0 k1 k2 CP hbr
  obtain ⟨u2, hu⟩ : ∃ z : World, Sort.grow (redrawn u1 dq) osq = z := ⟨_, rfl⟩
  rw [hu] at HB2 HM2 HO2 HI2 hbu2 ⊢
  clear hu hmlt hilt hbu
  have hbu := hbu2
  clear hbu2
  have c5 := HO2.out.cell (i := jp) (j := 5) hjp (by omega)
  rw [HY.out] at c5
  simp [LN.cells, nodeCellsA] at c5
  have hYL := HY.out
  have hol := HO2.out.lists Y (by rw [← hYL]; exact List.getElem_mem hjp)
  have hYb : Y.k.ownBlock ∈ (l[jp]).blocks := by rw [hYL]; simp [LN.blocks]
  have HNG : Hid (Y.k.ownBlock ≠ some g) := Lib.hid (fun e => HO2.out.row_ne (List.getElem_mem hjp) (b := g) (by rw [← e]; exact hYb) rfl)
  have HOL := Lib.hid hol
  obtain ⟨Ak, nk, hAk⟩ := hol.k.shape
  have HAK := Lib.hid hAk
  have HNI : Hid (Y.k.ownBlock ≠ some (w.heap.size + 1)) := Lib.hid (fun e => by
    have h1 := (HO.out.lists Y (by rw [← hYL]; exact List.getElem_mem hjp)).k.lt _ e
    omega)
  clear hYL hol hYb
  rw [hAk] at c5
  clear hAk
  have hko : u2.ownsRow base 3 1 (.slice Ak Y.n.kids.length nk) Y.n.kids.length (Y.n.kids.flatMap intCells) := by rw [intCells_map, ← HAK.out]; exact HOL.out.k
  have HDL := Lib.hid (delIntQ_any (.slice Ak Y.n.kids.length nk) Y.n.kids (fun k => k == X.n.id) (w.heap.size + 1) u2 base hko (fun x _ w' hw => unhang1_any x X.n.id (w.heap.size + 1) w' (HI2.out.grown hw (fun e => HNI.out (by rw [HAK.out]; exact e.symm)))) (by omega))
  clear hko
  go_wp2_with fail
  refine HDL.out.mono ?_
  rintro _ w6 ⟨v', rfl, hown, hg6, hat6⟩
  rw [← HAK.out] at hg6 hat6
  have HOW : Hid (OwnI w6 base v' (keepQ (fun k => k == X.n.id) Y.n.kids)) := Lib.hid (by unfold OwnI; rw [← intCells_map]; exact hown)
  obtain ⟨A6, n6, rfl⟩ := HOW.out.shape
  have hrowb := HO2.out.row.lt g rfl
  have hg6g : w6.heap[g]? = u2.heap[g]? := hg6.block g hrowb.2 (fun e => HNG.out e.symm)
  have c5 : w6.cell? ⟨g, jp * 7 + 5, none⟩ = some (.slice Ak Y.n.kids.length nk) := by
    have h := HO2.out.cell (i := jp) (j := 5) hjp (by omega)
    rw [HY.out] at h
    rw [World.cell?_of_block (w := u2) (a := ⟨g, jp * 7 + 5, none⟩) hg6g, h]
    simp [LN.cells, nodeCellsA, HAK.out]
  have z5 : w6.frozen? ⟨g, jp * 7 + 5, none⟩ = false := by
    rw [World.frozen?_of_block (w := u2) (a := ⟨g, jp * 7 + 5, none⟩) hg6g]; exact HO2.out.frozen _
  have HB6 := Lib.hid (HB2.out.grown hg6 (fun b e => HOK.out b e))
  obtain ⟨nv, hnv⟩ : ∃ z : Value, .slice A6 (keepQ (fun k => k == X.n.id) Y.n.kids).length n6 = z := ⟨_, rfl⟩
  have HB7 := Lib.hid (HB6.out.set_ HOG (jp * 7 + 5) (.slice A6 (keepQ (fun k => k == X.n.id) Y.n.kids).length n6))
  have HO7 := Lib.hid (HO2.out.setKids hjp HY.out (keepQ (fun k => k == X.n.id) Y.n.kids) (.slice A6 (keepQ (fun k => k == X.n.id) Y.n.kids).length n6) hg6 (.inl hat6) HOW.out)
  clear hown hg6 hat6 hg6g hnv nv HDL
  go_wp2
  go_end0
  exact ⟨rfl, _, HO7.out, by rw [List.map_set, HNS.out]; exact HEND.out, HB7.out⟩

set_option maxRecDepth 100000 in
set_option maxHeartbeats 4000000 in
theorem unhangRoot_any (next : Int) (v : Value) (l : List LN) (w : World) (base : Nat) (O : Nat → Prop) (hOO : ∀ b, some b ∈ (v.ownBlock :: allBlocks l) → O b) (hO : OwnM w base v l) (hbw : base ≤ w.heap.size) (hS : SrtB (l.map LN.n)) (hl : l.length ≤ 1048576)
    (jn : Nat) (hjn : jn < l.length) (X : LN) (hX : l[jn] = X) (hp : X.n.parent = 0) :
    Calls Try.prog 99 #[.agg #[.int .i64 next, v], .int .i64 X.n.id] w fun e w' => e = .returned (.tuple #[]) ∧
      ∃ l', OwnM w' base v l' ∧ l'.map LN.n = unhangN (l.map LN.n) X.n.parent X.n.id ∧ KeepO O w w' := by
  obtain ⟨g, cap, rfl, hnc, hcm, hgb, hgw⟩ := own_some hO.row (by omega)
  have HOG : O g := hOO g (by show some g ∈ some g :: _; exact List.mem_cons_self ..)
  obtain ⟨ns, hns⟩ : ∃ ns, l.map LN.n = ns := ⟨_, rfl⟩
  have hlen : l.length = ns.length := by rw [← hns]; simp
  have hXn : ns[jn]? = some X.n := by rw [← hns]; simp [hjn, hX]
  rw [hns] at hS ⊢
  rw [hlen] at hO ⊢
  have hjn2 : jn < ns.length := by omega
  have hXg : ns[jn] = X.n := by rw [List.getElem?_eq_getElem hjn2] at hXn; injection hXn
  have hXi := hS.2 jn hjn2
  rw [hXg] at hXi
  have hatX : atI ns X.n.id = jn := by rw [← hXg]; exact atI_some hS.1 hjn2 rfl
  have HP := Lib.hid hp
  have HEND : Hid (unhangN ns X.n.parent X.n.id = ns) := Lib.hid (by rw [hp]; exact unhangN_zero hS)
  rw [HEND.out]
  have hXr : InR X.n.id := by unfold InR; omega
  have HS := Lib.hid hS; have HNS := Lib.hid hns; have HX := Lib.hid hX; have HO := Lib.hid hO
  have HATX := Lib.hid hatX
  rw [hlen] at hl
  unfold maxLen at hcm
  clear hS hns hX hO hXn hXg hatX hlen hp
  have hgm : g ≠ w.heap.size := by omega
  have hgm1 : g ≠ w.heap.size + 1 := by omega
  have HB0 := Lib.hid (((KeepO.refl O w).alloc (.cells #[.int .i64 next, .slice (some ⟨g, 0, none⟩) ns.length cap] 24)).alloc (.cells #[.int .i64 X.n.id] 3))
  have HM0 := Lib.hid ((Blk.new w 24 #[.int .i64 next, .slice (some ⟨g, 0, none⟩) ns.length cap]).alloc (.cells #[.int .i64 X.n.id] 3))
  have HI0 : Hid (Blk ((w.alloc (.cells #[.int .i64 next, .slice (some ⟨g, 0, none⟩) ns.length cap] 24)).alloc (.cells #[.int .i64 X.n.id] 3)) (w.heap.size + 1) 3 #[.int .i64 X.n.id]) := Lib.hid (Blk.new' (by simp))
  have HO0 := Lib.hid (HO.out.below (((Below.refl w.heap.size w).alloc (Nat.le_refl _) (.cells #[.int .i64 next, .slice (some ⟨g, 0, none⟩) ns.length cap] 24)).alloc (by simp) (.cells #[.int .i64 X.n.id] 3)))
  go_enter Try.func99, Try.ntmps99
  go_wp2_with fail
  obtain ⟨u0, hu0⟩ : ∃ u : World, (w.alloc (.cells #[.int .i64 next, .slice (some ⟨g, 0, none⟩) ns.length cap] 24)).alloc (.cells #[.int .i64 X.n.id] 3) = u := ⟨_, rfl⟩
  rw [hu0] at HB0 HM0 HO0 HI0
  (try rw [hu0])
  have hbu : base ≤ u0.heap.size := by rw [← hu0]; simp; omega
  clear hu0
  have hj0 : (0 : Int) ≤ jn := by omega
  have hj1 : (jn : Int) < ns.length := by omega
  have m0 := HM0.out.cell 0; have m1 := HM0.out.cell 1
  have i0 := HI0.out.cell 0
  have hmlt := HM0.out.lt
  have hilt := HI0.out.lt
  simp at m0 m1 i0
  have c2 := HO0.out.cell (i := jn) (j := 2) hjn (by omega)
  rw [HX.out] at c2
  simp [LN.cells, nodeCellsA] at c2
  rw [HP.out] at c2
  have CP := Lib.hid (fun (d : Nat) (os : Array Obj) => Calls.regrown_of (w := u0) (d := d) (os := os) (by
    have ho := HO0.out.below (below_regrown u0 d os)
    have := place_any (some ⟨g, 0, none⟩) cap next X.n.id ns (Sort.grow (redrawn u0 d) os) (fun b => base ≤ b ∧ b < (Sort.grow (redrawn u0 d) os).heap.size) (fun b hb => hb.2) (by rw [← HNS.out]; exact ho.rowOf (fun b h1 h2 => ⟨h1, h2⟩)) HS.out hXr (by omega)
    rw [HATX.out] at this; exact this))
  have k0 := cell_regrown m0; have k1 := cell_regrown m1; have k2 := cell_regrown i0; have k3 := cell_regrown c2
  clear m0 m1 i0
  refine wp_region_quiet_below (by kernel_rfl) (by kernel_rfl) ?_
  repeat (first | go_big_quiet_step (exact CP.out _ _) | quiet_step (exact CP.out _ _))
  refine wpQuiet_nil ?_
  intro _ hw'
  obtain ⟨⟨dq, osq⟩, hw''⟩ := hw'
  subst hw''
  have hbr := below_regrown u0 dq osq
  have HB1 := Lib.hid (HB0.out.below hbr)
  have HM1 := Lib.hid (HM0.out.below hbr hmlt)
  have HI1 := Lib.hid (HI0.out.below hbr hilt)
  have HO1 := Lib.hid (HO0.out.below hbr)
  have hbu2 := Nat.le_trans hbu hbr.size
  clear k0 k1 k2 CP hbr k3 c2
  obtain ⟨u1, hu⟩ : ∃ z : World, Sort.grow (redrawn u0 dq) osq = z := ⟨_, rfl⟩
  rw [hu] at HB1 HM1 HO1 HI1 hbu2 ⊢
  clear hu hmlt hilt hbu
  have hbu := hbu2
  clear hbu2
  have hp0 : ((0 : Int) == 0) = true := by decide
  go_wp2
  refine bodyPost_ret (results_none rfl _ _ _) rfl ?_
  exact ⟨rfl, _, HO1.out, HNS.out, HB1.out⟩

/-- either way -/
theorem unhang_any (next : Int) (v : Value) (l : List LN) (w : World) (base : Nat) (O : Nat → Prop) (hOO : ∀ b, some b ∈ (v.ownBlock :: allBlocks l) → O b) (hO : OwnM w base v l) (hbw : base ≤ w.heap.size) (hS : SrtB (l.map LN.n)) (hl : l.length ≤ 1048576) (hk4 : ∀ y ∈ l.map LN.n, y.kids.length ≤ 4096)
    (x : ANode) (hx : x ∈ l.map LN.n) (hp : x.parent = 0 ∨ ∃ y ∈ l.map LN.n, x.parent = y.id) :
    Calls Try.prog 99 #[.agg #[.int .i64 next, v], .int .i64 x.id] w fun e w' => e = .returned (.tuple #[]) ∧
      ∃ l', OwnM w' base v l' ∧ l'.map LN.n = unhangN (l.map LN.n) x.parent x.id ∧ KeepO O w w' := by
  obtain ⟨X, hX, rfl⟩ := List.mem_map.1 hx
  obtain ⟨jn, hjn, rfl⟩ := List.getElem_of_mem hX
  rcases hp with hp | ⟨y, hy, hp⟩
  · exact unhangRoot_any next v l w base O hOO hO hbw hS hl jn hjn _ rfl hp
  · obtain ⟨Y, hY, rfl⟩ := List.mem_map.1 hy
    obtain ⟨jp, hjp, rfl⟩ := List.getElem_of_mem hY
    have := unhangKid_any next v l w base O hOO hO hbw hS hl jn hjn _ rfl jp hjp _ rfl hp (hk4 _ (List.mem_map.2 ⟨_, hY, rfl⟩))
    exact this
end Go.Proofs.Ytmafhaadcjgcbaa
end
section
/- deep, depth, goal and may in a model whose nodes are told by their numbers, be it a tree or not -/
namespace Go.Proofs.Ytmafhaadcjgcbaa
open Go Go.RowKit

set_option maxRecDepth 100000 in
set_option maxHeartbeats 1000000 in
theorem deepI_any (A : Option Addr) (c : Nat) (m : AModel) (w : World) (F : Nat → Prop) (hF : ∀ b, F b → b < w.heap.size) (h : RowOf 7 ENode w F A m.nodes) (hT : ∀ i, IdAt m i) (hs : SrtB m.nodes) (hr : ∀ x ∈ m.nodes, InR x.parent) (hl : m.nodes.length ≤ 1048576) (x : ANode) (hx : x ∈ m.nodes) (d : Nat) (hd : Dep m d x.id) (hd6 : d ≤ 64) :
    Calls Try.prog 73 #[.agg #[.int .i64 m.next, .slice A m.nodes.length c], .int .i64 x.id] w fun e w' => e = .returned (.int .i64 d) ∧ Below w.heap.size w w' := by
  have HT := Lib.hid hT; have HS := Lib.hid hs; have HR := Lib.hid hr; have HX := Lib.hid hx; have HD := Lib.hid hd; have HH := Lib.hid h
  clear hT hs hr hx hd h
  go_enter Try.func73, Try.ntmps73
  go_wp2_with fail
  go_loopg [1, 5] d (fun g s1 s5 wx => ∃ (n : Nat) (cur : Int), s1 = .int .i64 cur ∧ s5 = .int .i64 n ∧ g = d - n ∧ n ≤ d ∧ Below w.heap.size w wx ∧ Blk wx w.heap.size 24 #[.int .i64 m.next, .slice A m.nodes.length c] ∧ ((cur = 0 ∧ n = d) ∨ (∃ y ∈ m.nodes, y.id = cur ∧ n < d ∧ Dep m (d - n) y.id)))
  case atStart => exact ⟨0, x.id, rfl, rfl, rfl, Nat.zero_le _, (Below.refl _ _).alloc (Nat.le_refl _) _, Blk.new _ _ _, .inr ⟨x, HX.out, rfl, HD.out.pos, HD.out⟩⟩
  case round =>
    obtain ⟨n, cur, rfl, rfl, rfl, hnd, hb, hm, hcase⟩ := hrel
    have HB := Lib.hid hb; have HM := Lib.hid hm
    have m0 := hm.cell 0; have m1 := hm.cell 1
    have hmlt := hm.lt
    have hsz := hb.size
    simp at m0 m1
    clear hm
    rcases hcase with ⟨rfl, rfl⟩ | ⟨y, hy, rfl, hlt, hD⟩
    · clear hb
      have g0 : ((0 : Int) != 0) = false := by decide
      go_wp2
      go_ret
      exact ⟨rfl, HB.out⟩
    · have hpos := id_pos HT.out hy
      have hne : (y.id != 0) = true := bne_iff_ne.2 (by omega)
      have HY := Lib.hid hy; have HDY := Lib.hid hD
      obtain ⟨j, hj, hje⟩ := List.getElem_of_mem hy
      obtain ⟨b, off, Sp, cp, Sk, ck, Sr, cr, rfl, hbF, d0, d1, d2, _⟩ := node_at (RowOf.keep ENode.stays (Keep.below hb hF) (F' := F) (fun _ h => h) HH.out) hj
      rw [hje] at d2
      have j0 : (0 : Int) ≤ j := by omega
      have j1 : (j : Int) < m.nodes.length := by omega
      have hat : atI m.nodes y.id = j := by rw [← hje]; exact atI_some HS.out.1 hj rfl
      have hin : InR y.id := by have := HS.out.2 j hj; rw [hje] at this; unfold InR; omega
      have CP := Lib.hid (fun (d : Nat) (os : Array Obj) => Calls.regrown_of (w := wr) (d := d) (os := os) (by
        have hbg := HB.out.trans ((below_regrown wr d os).mono HB.out.size)
        have := place_any (some ⟨b, off, none⟩) c m.next y.id m.nodes (Sort.grow (redrawn wr d) os) F (fun b hb' => Nat.lt_of_lt_of_le (hF b hb') hbg.size) (HH.out.keep ENode.stays (Keep.below hbg hF) (fun _ h => h)) HS.out hin hl
        rw [hat] at this; exact this))
      clear hb hje hat hin hpos hy hD d0 d1
      go_wp2_with fail
      have k0 := cell_regrown m0; have k1 := cell_regrown m1; have k2 := cell_regrown d2
      clear m0 m1 d2
      refine wp_region_quiet_below (by kernel_rfl) (by kernel_rfl) ?_
      repeat (first | go_big_quiet_step (exact CP.out _ _) | quiet_step (exact CP.out _ _))
      refine wpQuiet_nil ?_
      intro _ hw'
      obtain ⟨⟨dq, osq⟩, hw''⟩ := hw'
      subst hw''
      have HB2 := Lib.hid (HB.out.trans ((below_regrown wr dq osq).mono HB.out.size))
      have HM2 := Lib.hid (HM.out.below (below_regrown wr dq osq) hmlt)
      clear k0 k1 k2 CP
      have hn1 : (n : Int) + 1 ≤ 65 := by omega
      go_wp2
      go_roundg (d - (n + 1))
      case measure => omega
      case rel => exact ⟨n + 1, y.parent, rfl, by go_num, rfl, by omega, HB2.out, HM2.out, by
        rcases Dep.next HT.out HY.out HDY.out with ⟨h1, h2⟩ | ⟨z, hz, h1, h2, h3⟩
        · exact .inl ⟨h1, by omega⟩
        · exact .inr ⟨z, hz, h1, by omega, by rw [h1, show d - (n + 1) = d - n - 1 by omega]; exact h3⟩⟩

set_option maxRecDepth 100000 in
set_option maxHeartbeats 2000000 in
theorem goalI_any (A : Option Addr) (c : Nat) (m : AModel) (w : World) (F : Nat → Prop) (hF : ∀ b, F b → b < w.heap.size) (h : RowOf 7 ENode w F A m.nodes) (hT : ∀ i, IdAt m i) (hFm : Fam m) (hs : SrtB m.nodes) (hrp : ∀ x ∈ m.nodes, InR x.parent) (hr : ∀ x ∈ m.nodes, ∀ k ∈ x.kids, InR k) (hl : m.nodes.length ≤ 1048576) (j : Nat) (hj : j < m.nodes.length) (x : ANode) (hje : m.nodes[j] = x) (hk4 : x.kids.length ≤ 4096) (role : ByteArray) (a : Int) (ha : InR a) (d : Nat) (hd : Dep m d x.id) (hd6 : d ≤ 64) (high : Int) (hh : 0 ≤ high ∧ high ≤ 1048576) :
    Calls Try.prog 81 #[.agg #[.int .i64 m.next, .slice A m.nodes.length c], .int .i64 x.id, .string role, .int .i64 a, .int .i64 high] w fun e w' => e = .returned (.int .i64 (kidE (spotI x.kids (inL m x role) a) d high)) ∧ Below w.heap.size w w' := by
  have HB0 := Lib.hid ((Below.refl w.heap.size w).alloc (Nat.le_refl _) (.cells #[.int .i64 m.next, .slice A m.nodes.length c] 24))
  have HM0 := Lib.hid (Blk.new w 24 #[.int .i64 m.next, .slice A m.nodes.length c])
  have hx : x ∈ m.nodes := by rw [← hje]; exact List.getElem_mem hj
  have hpos := id_pos hT hx
  have g0 : (x.id == 0) = false := beq_eq_false_iff_ne.2 (by omega)
  have HH := Lib.hid h
  have HSP := Lib.hid (spot_any A c m (w.alloc (.cells #[.int .i64 m.next, .slice A m.nodes.length c] 24)) F (fun b hb => Nat.lt_of_lt_of_le (hF b hb) HB0.out.size) (h.keep ENode.stays (Keep.below HB0.out hF) (fun _ h => h)) hFm hs hr hl j hj x hje hk4 role a ha)
  have HT := Lib.hid hT; have HS := Lib.hid hs; have HRP := Lib.hid hrp; have HX := Lib.hid hx; have HD := Lib.hid hd
  have g1 : IntKind.i64.wrap ((d : Int) + high) = d + high := by rw [IntKind.wrap_i64]; omega
  clear h hT hs hrp hr hje hx hd hpos
  rcases hsp : spotI x.kids (inL m x role) a with _ | i
  · have hsp2 := HSP.out
    rw [hsp] at hsp2
    have HSP2 := Lib.hid hsp2
    have E := Lib.hid hsp
    clear hsp hsp2 HSP
    go_enter Try.func81, Try.ntmps81
    go_wp2_with fail
    refine HSP2.out.mono ?_
    rintro _ w1 ⟨rfl, hb1⟩
    have HB1 := Lib.hid (HB0.out.trans (hb1.mono HB0.out.size))
    clear hb1
    have q1 : decide ((-1 : Int) < 0) = true := by decide
    simp only [Option.getD_none, Option.isSome_none]
    go_wp2
    go_ret
    exact ⟨by first | rfl | (rw [E.out]; rfl), HB1.out⟩
  · have hsp2 := HSP.out
    rw [hsp] at hsp2
    have HSP2 := Lib.hid hsp2
    have E := Lib.hid hsp
    have hi0 : 0 ≤ i := (spotI_le inL_sub hsp).1
    clear hsp hsp2 HSP
    go_enter Try.func81, Try.ntmps81
    go_wp2_with fail
    refine HSP2.out.mono ?_
    rintro _ w1 ⟨rfl, hb1⟩
    have HB1 := Lib.hid (HB0.out.trans (hb1.mono HB0.out.size))
    have hm1 := HM0.out.below hb1 (by simp)
    have m0 := hm1.cell 0; have m1 := hm1.cell 1
    have hmlt := hm1.lt
    simp at m0 m1
    clear hb1 hm1
    simp only [Option.getD_some, Option.isSome_some]
    have q1 : decide (i < 0) = false := decide_eq_false (by omega)
    go_wp2_with fail
    refine (deepI_any A c m w1 F (fun b hb => Nat.lt_of_lt_of_le (hF b hb) HB1.out.size) (HH.out.keep ENode.stays (Keep.below HB1.out hF) (fun _ h => h)) HT.out HS.out HRP.out hl x HX.out d HD.out hd6).mono ?_
    rintro _ w2 ⟨rfl, hb2⟩
    have HB2 := Lib.hid (HB1.out.trans (hb2.mono HB1.out.size))
    clear hb2
    by_cases hdeep : 64 < (d : Int) + high
    · have K := Lib.hid (kidE_deep (i := i) hdeep)
      have q2 : decide (64 < (d : Int) + high) = true := decide_eq_true hdeep
      clear hdeep
      go_wp2
      go_ret
      exact ⟨by first | (rw [K.out]; rfl) | (rw [E.out, K.out]; rfl), HB2.out⟩
    · have K := Lib.hid (kidE_ok (i := i) hdeep)
      have q2 : decide (64 < (d : Int) + high) = false := decide_eq_false hdeep
      clear hdeep
      go_wp2
      go_ret
      exact ⟨by first | (rw [K.out]; rfl) | (rw [E.out, K.out]; rfl), HB2.out⟩

/-- what bars a place -/
noncomputable def goalE (m : AModel) (p : Int) (role : ByteArray) (a : Int) (d high : Int) : Int := if p = 0 then rootE role a else kidE (spotI (nodeOf m p).kids (inL m (nodeOf m p) role) a) d high
theorem goalE_root (m : AModel) (role : ByteArray) (a : Int) (d high : Int) : goalE m 0 role a d high = rootE role a := if_pos rfl
theorem goalE_kid {m : AModel} (hFm : Fam m) {x : ANode} (hx : x ∈ m.nodes) (h0 : x.id ≠ 0) (role : ByteArray) (a : Int) (d high : Int) : goalE m x.id role a d high = kidE (spotI x.kids (inL m x role) a) d high := by
  unfold goalE; rw [if_neg h0, hFm.1 x hx]
end Go.Proofs.Ytmafhaadcjgcbaa
end
section
/- how high a node is: arena.height, topiaryref02.high -/
namespace Go.Proofs.Ytmafhaadcjgcbaa
open Go Go.RowKit

noncomputable def dN (m : AModel) (id : Int) : Nat := (depR m id).toNat
theorem dN_yes {m : AModel} (h : CheckM m) {d : Nat} {id : Int} (hd : Dep m d id) : dN m id = d := by unfold dN; rw [depR_yes h hd]; simp
/-- the deepest of them -/
noncomputable def mostTo (m : AModel) (d : Nat) (l : List Int) : Nat := l.foldl (fun a k => max a (dN m k)) d
noncomputable def heightN (m : AModel) (id : Int) : Nat := mostTo m (dN m id) (belowL m id) - dN m id + 1
theorem mostTo_ge (m : AModel) : ∀ (l : List Int) (d : Nat), d ≤ mostTo m d l
  | [], d => Nat.le_refl _
  | k :: r, d => Nat.le_trans (Nat.le_max_left d (dN m k)) (mostTo_ge m r (max d (dN m k)))
theorem mostTo_snoc (m : AModel) (l : List Int) (k : Int) (d : Nat) : mostTo m d (l ++ [k]) = max (mostTo m d l) (dN m k) := by
  unfold mostTo; rw [List.foldl_append]; rfl
theorem mostTo_le (m : AModel) : ∀ (l : List Int) (d B : Nat), d ≤ B → (∀ k ∈ l, dN m k ≤ B) → mostTo m d l ≤ B
  | [], d, B, h, _ => h
  | k :: r, d, B, h, hk => mostTo_le m r (max d (dN m k)) B (Nat.max_le.2 ⟨h, hk k (List.mem_cons_self ..)⟩) fun x hx => hk x (List.mem_cons_of_mem _ hx)
theorem below_dep {m : AModel} (h : CheckM m) {x : ANode} (hx : x ∈ m.nodes) {d : Nat} (hd : Dep m d x.id) {k : Int} (hk : k ∈ belowL m x.id) : ∃ y ∈ m.nodes, y.id = k ∧ ∃ e, Dep m e k ∧ e ≤ 64 ∧ d < e ∧ dN m k = e := by
  obtain ⟨j, hj, _⟩ := h.tree.below_up x hx d hd k hk
  obtain ⟨y, hy, e⟩ := hj.node
  obtain ⟨e2, h2, h3⟩ := h.tree.dep y hy
  rw [e] at h3
  have := h3.uniq h.tree.ids hj
  exact ⟨y, hy, e, d + (j + 1), hj, by omega, by omega, dN_yes h hj⟩
theorem height_le {m : AModel} (h : CheckM m) {x : ANode} (hx : x ∈ m.nodes) : 1 ≤ heightN m x.id ∧ heightN m x.id ≤ 64 := by
  obtain ⟨d, hd6, hd⟩ := h.tree.dep x hx
  have e := dN_yes h hd
  have h1 := hd.pos
  have h2 := mostTo_le m (belowL m x.id) d 64 hd6 fun k hk => by
    obtain ⟨_, _, _, e, _, h6, _, e2⟩ := below_dep h hx hd hk
    omega
  unfold heightN
  rw [e]
  omega

set_option maxRecDepth 100000 in
set_option maxHeartbeats 4000000 in
theorem height_any (A : Option Addr) (c : Nat) (m : AModel) (w : World) (F : Nat → Prop) (hF : ∀ b, F b → b < w.heap.size) (h : RowOf 7 ENode w F A m.nodes) (hCM : CheckM m) (hrp : ∀ x ∈ m.nodes, InR x.parent) (hr : ∀ x ∈ m.nodes, ∀ k ∈ x.kids, InR k) (x : ANode) (hx : x ∈ m.nodes) :
    Calls Try.prog 98 #[.agg #[.int .i64 m.next, .slice A m.nodes.length c], .int .i64 x.id] w fun e w' => e = .returned (.int .i64 (heightN m x.id : Nat)) ∧ Below w.heap.size w w' := by
  have hl4 : m.nodes.length ≤ 4096 := hCM.1.1.2.2
  obtain ⟨d, hd6, hd⟩ := hCM.tree.dep x hx
  have HH := Lib.hid h; have HCM := Lib.hid hCM; have HRP := Lib.hid hrp; have HR := Lib.hid hr; have HX := Lib.hid hx; have HD := Lib.hid hd
  have HDN := Lib.hid (dN_yes hCM hd)
  have HBL := Lib.hid (hCM.tree.below_len hx)
  obtain ⟨L, hL⟩ : ∃ L, belowL m x.id = L := ⟨_, rfl⟩
  have HL := Lib.hid hL
  have HHE : Hid (heightN m x.id = mostTo m d L - d + 1) := Lib.hid (by unfold heightN; rw [dN_yes hCM hd, hL])
  have HBD : Hid (∀ k ∈ L, ∃ y ∈ m.nodes, y.id = k ∧ ∃ e, Dep m e k ∧ e ≤ 64 ∧ d < e ∧ dN m k = e) := Lib.hid (fun k hk => below_dep hCM hx hd (by rw [hL]; exact hk))
  have HLL : Hid (L.length ≤ 4096) := Lib.hid (by rw [← hL]; exact Nat.le_trans (hCM.tree.below_len hx) hl4)
  have hd1 := hd.pos
  obtain ⟨n, hn⟩ : ∃ n, m.nodes.length = n := ⟨_, rfl⟩
  have HN := Lib.hid hn
  rw [hn] at hl4 ⊢
  clear h hCM hrp hr hx hd hL hn
  go_enter Try.func98, Try.ntmps98
  obtain ⟨u1, hu⟩ : ∃ u : World, w.alloc (.cells #[.int .i64 m.next, .slice A n c] 24) = u := ⟨_, rfl⟩
  have HBU : Below w.heap.size w u1 := by rw [← hu]; exact (Below.refl _ _).alloc (Nat.le_refl _) _
  have HBM : Hid (Blk u1 w.heap.size 24 #[.int .i64 m.next, .slice A n c]) := Lib.hid (by rw [← hu]; exact Blk.new _ _ _)
  have HUE := Lib.hid hu
  clear hu
  have HB_w : Hid (Below w.heap.size w u1) := Lib.hid HBU
  clear HBU
  have HDE := Lib.hid (deepI_any A c m u1 F (fun b hb => Nat.lt_of_lt_of_le (hF b hb) HB_w.out.size) (HH.out.keep ENode.stays (Keep.below HB_w.out hF) (fun _ h => h)) HCM.out.1.2 HCM.out.1.srtB HRP.out (by rw [HN.out]; omega) x HX.out d HD.out hd6)
  rw [HN.out] at HDE
  go_wp2_with fail
  (try rw [HUE.out])
  refine HDE.out.mono ?_
  rintro _ w1 ⟨rfl, hb⟩
  replace HB_w : Hid (Below w.heap.size w w1) := Lib.hid (HB_w.out.trans (hb.mono HB_w.out.size))
  replace HBM := Lib.hid (HBM.out.below hb HBM.out.lt)
  have HBMc0 := HBM.out.cell 0
  have HBMc1 := HBM.out.cell 1
  have HBMlt := HBM.out.lt
  simp at HBMc0 HBMc1
  clear hb HDE HUE
  have HUN := Lib.hid (under_any A c m w1 F (fun b hb => Nat.lt_of_lt_of_le (hF b hb) HB_w.out.size) (HH.out.keep ENode.stays (Keep.below HB_w.out hF) (fun _ h => h)) HCM.out.tree HCM.out.1.srtB HR.out (by rw [HN.out]; omega) x HX.out)
  rw [HL.out, HN.out] at HUN
  go_wp2_with fail
  refine HUN.out.mono ?_
  rintro _ w2 ⟨v, rfl, hown, hb⟩
  replace HB_w : Hid (Below w.heap.size w w2) := Lib.hid (HB_w.out.trans (hb.mono HB_w.out.size))
  replace HBM := Lib.hid (HBM.out.below hb HBM.out.lt)
  obtain ⟨Av, cv, rfl⟩ := hown.shape
  have HOW := Lib.hid hown
  have HOR : Hid (RowOf 1 EInt w2 (fun b => b < w2.heap.size) Av L) := Lib.hid (by
    obtain ⟨A', c', e, _, _, h3⟩ := hown.isRow (F := fun b => b < w2.heap.size) (fun b _ h => h)
    injection e with e1; subst e1; exact h3)
  clear hb hown HUN HBMc0 HBMc1 HBMlt
  obtain ⟨t, ht⟩ : ∃ t, L.length = t := ⟨_, rfl⟩
  have HT := Lib.hid ht
  have HLT : Hid (t ≤ 4096) := Lib.hid (by rw [← ht]; exact HLL.out)
  rw [ht]
  clear ht
  go_upto_region 4 with fail
  go_loopg [6, 17] t (fun g s6 s17 wx => ∃ (k p : Nat), s17 = .int .i64 k ∧ s6 = .int .i64 p ∧ g = t - k ∧ k ≤ t ∧ p = mostTo m d (L.take k) ∧ p ≤ 64 ∧ Below w2.heap.size w2 wx)
  case atStart => exact ⟨0, d, rfl, rfl, rfl, Nat.zero_le _, rfl, hd6, Below.refl _ _⟩
  case round =>
    obtain ⟨k, p, rfl, rfl, rfl, hk, hp, hp6, hb⟩ := hrel
    have k0 : (0 : Int) ≤ k := by omega
    have p0 : (0 : Int) ≤ p := by omega
    have HP := Lib.hid hp
    replace HB_w : Hid (Below w.heap.size w wr) := Lib.hid (HB_w.out.trans (hb.mono HB_w.out.size))
    have HB_w2 : Hid (Below w2.heap.size w2 wr) := Lib.hid hb
    replace HBM := Lib.hid (HBM.out.below hb HBM.out.lt)
    clear hb hp
    have ht4 := HLT.out
    by_cases hlt : k < t
    · have hlt' : (k : Int) < t := by omega
      have HKL : Hid (k < L.length) := Lib.hid (by rw [HT.out]; exact hlt)
      obtain ⟨b, off, rfl, hbF, d0⟩ := int_at HOR.out HKL.out
      have d0 := (HB_w2.out.cell (p := ⟨b, off + k, none⟩) hbF).trans d0
      obtain ⟨y, hy, hyk, e, he, he6, hde, hdn⟩ := HBD.out _ (List.getElem_mem HKL.out)
      have HY := Lib.hid hy; have HE := Lib.hid he; have HDK := Lib.hid hdn
      obtain ⟨kk, hkk⟩ : ∃ z, L[k]'HKL.out = z := ⟨_, rfl⟩
      have HKK := Lib.hid hkk
      rw [hkk] at d0 hyk HE HDK
      subst hyk
      clear hy he hdn hkk
      have HDE := Lib.hid (deepI_any A c m wr F (fun b hb => Nat.lt_of_lt_of_le (hF b hb) HB_w.out.size) (HH.out.keep ENode.stays (Keep.below HB_w.out hF) (fun _ h => h)) HCM.out.1.2 HCM.out.1.srtB HRP.out (by rw [HN.out]; omega) y HY.out e HE.out he6)
      rw [HN.out] at HDE
      have HBMc0 := HBM.out.cell 0
      have HBMc1 := HBM.out.cell 1
      have HBMlt := HBM.out.lt
      simp at HBMc0 HBMc1
      go_wp2_with fail
      refine HDE.out.mono ?_
      rintro _ w3 ⟨rfl, hb⟩
      replace HB_w : Hid (Below w.heap.size w w3) := Lib.hid (HB_w.out.trans (hb.mono HB_w.out.size))
      replace HB_w2 : Hid (Below w2.heap.size w2 w3) := Lib.hid (HB_w2.out.trans (hb.mono HB_w2.out.size))
      replace HBM := Lib.hid (HBM.out.below hb HBM.out.lt)
      clear hb HDE HBMc0 HBMc1 HBMlt d0
      have HMX : Hid (max p e = mostTo m d (L.take (k + 1))) := Lib.hid (by
        rw [List.take_succ_eq_append_getElem HKL.out, mostTo_snoc, HKK.out, HDK.out, ← HP.out])
      by_cases hpe : p < e
      · have q1 : decide ((p : Int) < (e : Int)) = true := decide_eq_true (by omega)
        have q2 : (if (p : Int) < (e : Int) then (e : Int) else (p : Int)) = (e : Int) := if_pos (by omega)
        have q3 : max (p : Int) (e : Int) = (e : Int) := by omega
        go_wp2_with fail
        go_roundg (t - (k + 1))
        case measure => omega
        case rel => exact ⟨k + 1, e, by go_num, by first | rfl | go_num, rfl, by omega, by rw [← HMX.out]; omega, he6, HB_w2.out⟩
      · have q1 : decide ((p : Int) < (e : Int)) = false := decide_eq_false (by omega)
        have q2 : (if (p : Int) < (e : Int) then (e : Int) else (p : Int)) = (p : Int) := if_neg (by omega)
        have q3 : max (p : Int) (e : Int) = (p : Int) := by omega
        go_wp2_with fail
        go_roundg (t - (k + 1))
        case measure => omega
        case rel => exact ⟨k + 1, p, by go_num, by first | rfl | go_num, rfl, by omega, by rw [← HMX.out]; omega, hp6, HB_w2.out⟩
    · have hlt' : ¬ (k : Int) < t := by omega
      have hpd : d ≤ p := by rw [HP.out]; exact mostTo_ge m _ _
      have HEQ : Hid ((p : Int) - d + 1 = ((heightN m x.id : Nat) : Int)) := Lib.hid (by
        have h := HP.out
        rw [List.take_of_length_le (by rw [HT.out]; omega)] at h
        rw [HHE.out, ← h]; omega)
      go_wp2_with fail
      go_ret
      exact ⟨by rw [← HEQ.out]; first | rfl | (congr 2; go_num), HB_w.out⟩

end Go.Proofs.Ytmafhaadcjgcbaa
end
section
namespace Go.Proofs.Ytmafhaadcjgcbaa
open Go Go.RowKit

end Go.Proofs.Ytmafhaadcjgcbaa
end
section
namespace Go.Proofs.Ytmafhaadcjgcbaa
open Go Go.RowKit

end Go.Proofs.Ytmafhaadcjgcbaa
end
section
/- a node that hangs nowhere is put at a place, among the roots or below another: hang, put -/
namespace Go.Proofs.Ytmafhaadcjgcbaa
open Go Go.RowKit

theorem nodeOf_set {nx : Int} {ns : List ANode} (h : SrtB ns) {j : Nat} (hj : j < ns.length) {x : ANode} (hi : x.id = ns[j].id) {y : ANode} (hy : y ∈ ns) (hne : y.id ≠ ns[j].id) : nodeOf ⟨nx, ns.set j x⟩ y.id = y := by
  have h2 : SrtB (ns.set j x) := srtB_congr h (by
    rw [List.map_set, hi]
    apply List.ext_getElem (by simp)
    intro q h1 h2
    by_cases hq : q = j
    · subst hq; simp
    · rw [List.getElem_set_ne (by omega)])
  refine nodeOf_srt (m := ⟨nx, ns.set j x⟩) h2 ?_
  obtain ⟨i, hi2, rfl⟩ := List.getElem_of_mem hy
  have hij : i ≠ j := fun e => hne (by subst e; rfl)
  exact List.mem_iff_getElem.2 ⟨i, by simpa using hi2, by rw [List.getElem_set_ne (Ne.symm hij)]⟩
theorem inL_set {nx : Int} {ns : List ANode} (h : SrtB ns) (hc : Closed ns) {j : Nat} (hj : j < ns.length) {x : ANode} (hi : x.id = ns[j].id) {y : ANode} (hy : y ∈ ns) (hno : ns[j].id ∉ y.kids) (role : ByteArray) : inL ⟨nx, ns.set j x⟩ y role = inL ⟨nx, ns⟩ y role := by
  unfold inL
  apply List.filter_congr
  intro k hk
  obtain ⟨z, hz, e⟩ := List.mem_map.1 (hc y hy k hk)
  have hne : z.id ≠ ns[j].id := fun e2 => hno (by rw [← e2, e]; exact hk)
  unfold roleB
  rw [← e, nodeOf_set h hj hi hz hne, nodeOf_srt (m := ⟨nx, ns⟩) h hz]
/-- where the place is -/
def PlaceAt (nx : Int) (ns : List ANode) (id p : Int) (role : ByteArray) (a : Int) (i : Int) : Prop := p = 0 ∨ ∃ y ∈ ns, y.id = p ∧ y.id ≠ id ∧ y.kids.length ≤ 4096 ∧ spotI y.kids (inL ⟨nx, ns⟩ y role) a = some i
section
variable (next : Int) (v : Value) (l : List LN) (w : World) (base : Nat) (O : Nat → Prop)
theorem hang_any (hOO : ∀ b, some b ∈ (v.ownBlock :: allBlocks l) → O b) (hO : OwnM w base v l) (hbw : base ≤ w.heap.size) (hS : SrtB (l.map LN.n)) (hr : ∀ x ∈ l.map LN.n, ∀ k ∈ x.kids, InR k) (hl : l.length ≤ 1048576) (hc : Closed (l.map LN.n))
    (x : ANode) (hx : x ∈ l.map LN.n) (hno : ∀ y ∈ l.map LN.n, x.id ∉ y.kids) (p : Int) (role : ByteArray) (a : Int) (ha : InR a) (i : Int) (hp : PlaceAt next (l.map LN.n) x.id p role a i) :
    Calls Try.prog 83 #[.agg #[.int .i64 next, v], .int .i64 x.id, .int .i64 p, .string role, .int .i64 a] w fun e w' => e = .returned (.tuple #[]) ∧
      ∃ l', OwnM w' base v l' ∧ l'.map LN.n = placeN (l.map LN.n) x.id p role i.toNat ∧ KeepO O w w' := by
  obtain ⟨X, hX, rfl⟩ := List.mem_map.1 hx
  obtain ⟨jn, hjn, rfl⟩ := List.getElem_of_mem hX
  have hjn2 : jn < (l.map LN.n).length := by simpa using hjn
  have eX : (l.map LN.n)[jn] = l[jn].n := List.getElem_map _
  rcases hp with rfl | ⟨y, hy, rfl, hne, hk4, hsp⟩
  · refine (hangRoot_any next v l w base O hOO hO hbw hS hl jn hjn _ rfl role a).mono fun e w' ⟨h1, l', h2, h3, h4⟩ => ⟨h1, l', h2, ?_, h4⟩
    have := placeN_root hS hjn2 role i.toNat
    rw [eX] at this
    rw [h3, this]
  · obtain ⟨Y, hY, rfl⟩ := List.mem_map.1 hy
    obtain ⟨jp, hjp, rfl⟩ := List.getElem_of_mem hY
    have hjp2 : jp < (l.map LN.n).length := by simpa using hjp
    have eY : (l.map LN.n)[jp] = l[jp].n := List.getElem_map _
    have hjj : jp ≠ jn := fun e => hne (by subst e; rfl)
    have hsp2 := hsp
    rw [← inL_set (x := { l[jn].n with parent := l[jp].n.id, role := role }) hS hc hjn2 (by rw [eX]) hy (by rw [eX]; exact hno _ hy)] at hsp2
    have hcs := (closed_set hc hjn2 (x := { l[jn].n with parent := l[jp].n.id, role := role }) (by rw [eX]) (fun k hk => hc _ hx k hk)).1
    refine (hangKid_any next v l w base O hOO hO hbw hS hr hl jn hjn _ rfl jp hjp _ rfl hjj role a ha hcs i hsp2 hk4).mono fun e w' ⟨h1, l', h2, h3, h4⟩ => ⟨h1, l', h2, ?_, h4⟩
    have := placeN_kid hS hjn2 hjp2 hjj role i.toNat
    rw [eX, eY] at this
    rw [h3, this]
end
end Go.Proofs.Ytmafhaadcjgcbaa
end
section
/- a model with a node taken out; what bars a move, and what comes of it: in plain Lean -/
namespace Go.Proofs.Ytmafhaadcjgcbaa
open Go Go.RowKit

theorem contains_any (A : Option Addr) (c : Nat) (l : List Int) (x : Int) (w : World) (F : Nat → Prop) (h : RowOf 1 EInt w F A l) (hl : l.length ≤ 9223372036854775807) :
    Calls Try.prog 97 #[.slice A l.length c, .int .i64 x] w fun e w' => e = .returned (.bool (l.contains x)) ∧ Below w.heap.size w w' := by
  cases l with
  | nil =>
    refine (Try.slices_Contains_int_empty A c x w).mono ?_
    rintro e w' ⟨rfl, rfl⟩
    exact ⟨rfl, Below.refl _ _⟩
  | cons y r =>
    obtain ⟨b, off, rfl, _⟩ := h.1 (by simp)
    refine (Try.slices_Contains_int b off (y :: r).length c (y :: r) x w (Nat.le_refl _) hl (fun j hj => ?_)).mono ?_
    · obtain ⟨b', off', e, _, h2⟩ := int_at h hj
      injection e with e
      injection e with e1 e2
      subst e1; subst e2
      rw [h2]
      congr 2
      rw [List.getD_eq_getElem?_getD, List.getElem?_eq_getElem hj]; rfl
    · rintro e w' ⟨rfl, rfl⟩
      exact ⟨by rw [List.take_length], Below.refl _ _⟩

/-- the model with a node taken out -/
def mu (m : AModel) (x : ANode) : AModel := ⟨m.next, unhangN m.nodes x.parent x.id⟩
theorem idAt_congr {m m' : AModel} (h : ∀ i, IdAt m i) (hn : m'.next = m.next) (e : m'.nodes.map (·.id) = m.nodes.map (·.id)) : ∀ i, IdAt m' i := by
  have hl : m'.nodes.length = m.nodes.length := by have := congrArg List.length e; simpa using this
  have hi : ∀ i (h1 : i < m'.nodes.length) (h2 : i < m.nodes.length), m'.nodes[i].id = m.nodes[i].id := fun i h1 h2 => by
    have := congrArg (fun x => x[i]?) e
    simpa [h1, h2] using this
  intro i hi1
  have h1 := h i (by omega)
  rw [hi i hi1 (by omega), hn]
  refine ⟨h1.1, h1.2.1, fun h0 => ?_⟩
  rw [hi (i - 1) (by omega) (by omega)]
  exact h1.2.2 h0
section
variable {m : AModel} {x : ANode}
theorem mu_mem {y : ANode} (hy : y ∈ (mu m x).nodes) : ∃ z ∈ m.nodes, y.id = z.id ∧ y.parent = z.parent ∧ y.role = z.role ∧ y.concept = z.concept ∧ y.props = z.props ∧ y.refs = z.refs ∧ (∀ k ∈ y.kids, k ∈ z.kids) ∧ y.kids.length ≤ z.kids.length ∧ (z.id = x.parent → x.id ∉ y.kids) := by
  obtain ⟨z, hz, rfl⟩ := List.mem_map.1 hy
  refine ⟨z, hz, ?_⟩
  by_cases h : z.id = x.parent
  · rw [if_pos h]
    refine ⟨rfl, rfl, rfl, rfl, rfl, rfl, fun k hk => (List.mem_filter.1 hk).1, List.length_filter_le _ _, fun _ hk => ?_⟩
    have := (List.mem_filter.1 hk).2
    simp at this
  · rw [if_neg h]
    exact ⟨rfl, rfl, rfl, rfl, rfl, rfl, fun k hk => hk, Nat.le_refl _, fun e => absurd e h⟩
theorem mu_node {z : ANode} (hz : z ∈ m.nodes) : ∃ y ∈ (mu m x).nodes, y.id = z.id ∧ y.parent = z.parent := by
  refine ⟨_, List.mem_map.2 ⟨z, hz, rfl⟩, ?_⟩
  by_cases h : z.id = x.parent
  · rw [if_pos h]; exact ⟨rfl, rfl⟩
  · rw [if_neg h]; exact ⟨rfl, rfl⟩
theorem mu_ids2 (m : AModel) (x : ANode) : (mu m x).nodes.map (·.id) = m.nodes.map (·.id) := unhangN_ids _ _ _
theorem mu_len (m : AModel) (x : ANode) : (mu m x).nodes.length = m.nodes.length := unhangN_len _ _ _
theorem mu_srt (h : CheckM m) : SrtB (mu m x).nodes := unhangN_srt h.1.srtB
theorem mu_ids (h : CheckM m) : ∀ i, IdAt (mu m x) i := idAt_congr h.1.2 rfl (mu_ids2 m x)
theorem mu_closed (h : CheckM m) : Closed (mu m x).nodes := fun y hy k hk => by
  obtain ⟨z, hz, _, _, _, _, _, _, hs, _⟩ := mu_mem hy
  obtain ⟨u, hu, e, _⟩ := h.tree.kid hz (hs k hk)
  rw [mu_ids2]
  exact List.mem_map.2 ⟨u, hu, e⟩
theorem mu_fam (h : CheckM m) : Fam (mu m x) := fam_of (mu_srt h) (mu_closed h)
theorem mu_nokid (h : CheckM m) (hx : x ∈ m.nodes) : ∀ y ∈ (mu m x).nodes, x.id ∉ y.kids := fun y hy hk => by
  obtain ⟨z, hz, _, _, _, _, _, _, hs, _, hno⟩ := mu_mem hy
  obtain ⟨u, hu, e, e2, _⟩ := h.tree.kid hz (hs _ hk)
  have := node_inj h.1.2 hu hx e
  subst this
  exact hno e2.symm hk
theorem mu_dep (h : CheckM m) {d : Nat} {id : Int} (hd : Dep m d id) : Dep (mu m x) d id := by
  induction hd with
  | root z hz h0 =>
    obtain ⟨y, hy, e1, e2⟩ := mu_node (x := x) hz
    rw [← e1]; exact .root y hy (by rw [e2]; exact h0)
  | kid d z hz hp _ ih =>
    obtain ⟨y, hy, e1, e2⟩ := mu_node (x := x) hz
    rw [← e1]; exact .kid d y hy (by rw [e2]; exact hp) (by rw [e2]; exact ih)
theorem check_kids4 (h : CheckM m) : ∀ y ∈ m.nodes, y.kids.length ≤ 4096 := fun y hy => Nat.le_trans (h.2.1 y hy).2.2.2.1 h.1.1.2.2
theorem mu_kids4 (h : CheckM m) : ∀ y ∈ (mu m x).nodes, y.kids.length ≤ 4096 := fun y hy => by
  obtain ⟨z, hz, _, _, _, _, _, _, _, h1, _⟩ := mu_mem hy
  exact Nat.le_trans h1 (check_kids4 h z hz)
theorem mu_kidsR (hr : ∀ y ∈ m.nodes, ∀ k ∈ y.kids, InR k) : ∀ y ∈ (mu m x).nodes, ∀ k ∈ y.kids, InR k := fun y hy k hk => by
  obtain ⟨z, hz, _, _, _, _, _, _, hs, _, _⟩ := mu_mem hy
  exact hr z hz k (hs k hk)
theorem mu_parR (hr : ∀ y ∈ m.nodes, InR y.parent) : ∀ y ∈ (mu m x).nodes, InR y.parent := fun y hy => by
  obtain ⟨z, hz, _, e, _⟩ := mu_mem hy
  rw [e]; exact hr z hz
theorem check_parent (h : CheckM m) (hx : x ∈ m.nodes) : x.parent = 0 ∨ ∃ y ∈ m.nodes, x.parent = y.id := by
  rcases h.2.2.2.2 x hx with h1 | ⟨y, hy, e, _⟩
  · exact .inl h1
  · exact .inr ⟨y, hy, e.symm⟩
end
/-- where the place is, among its parent's kids -/
def iOf (m : AModel) (p : Int) (role : ByteArray) (a : Int) : Int := (spotI (nodeOf m p).kids (inL m (nodeOf m p) role) a).getD 0
theorem place_of {m : AModel} (hFm : Fam m) (h4 : ∀ y ∈ m.nodes, y.kids.length ≤ 4096) {id p : Int} (hne : p ≠ id) (hp : p = 0 ∨ ∃ y ∈ m.nodes, y.id = p) {role : ByteArray} {a d high : Int} (hg : goalE m p role a d high = 0) : PlaceAt m.next m.nodes id p role a (iOf m p role a) := by
  rcases hp with h0 | ⟨y, hy, rfl⟩
  · exact .inl h0
  · by_cases h0 : y.id = 0
    · exact .inl h0
    · refine .inr ⟨y, hy, rfl, hne, h4 y hy, ?_⟩
      rw [goalE_kid hFm hy h0] at hg
      have e : nodeOf m y.id = y := hFm.1 y hy
      unfold iOf
      rw [e]
      cases hs : spotI y.kids (inL m y role) a with
      | none => rw [hs, kidE_none] at hg; cases hg
      | some i => rfl
open Classical in
/-- what bars a move -/
noncomputable def moveE (m : AModel) (id p : Int) (role : ByteArray) (a : Int) : Int :=
  if ¬ CheckM m then 29 else if p ≠ 0 ∧ wordA role = false then 2 else if atI m.nodes id < 0 ∨ (p ≠ 0 ∧ atI m.nodes p < 0) then 20
  else if p = id ∨ p ∈ belowL m id then 21 else goalE (mu m (nodeOf m id)) p role a (dN m p) (heightN m id : Nat)
noncomputable def moveL (m : AModel) (id p : Int) (role : ByteArray) (a : Int) : List ANode := placeN (mu m (nodeOf m id)).nodes id p role (iOf (mu m (nodeOf m id)) p role a).toNat
section
variable {m : AModel} {id p a : Int} {role : ByteArray}
open Classical in
theorem moveE_check (h : ¬ CheckM m) : moveE m id p role a = 29 := if_pos h
open Classical in
theorem moveE_word (h : CheckM m) (hp : p ≠ 0) (hw : wordA role = false) : moveE m id p role a = 2 := by unfold moveE; rw [if_neg (fun e => e h), if_pos ⟨hp, hw⟩]
open Classical in
theorem moveE_node (h : CheckM m) (hw : p ≠ 0 → wordA role = true) (hn : atI m.nodes id < 0 ∨ (p ≠ 0 ∧ atI m.nodes p < 0)) : moveE m id p role a = 20 := by
  unfold moveE; rw [if_neg (fun e => e h), if_neg (fun e => by rw [hw e.1] at e; exact absurd e.2 (by simp)), if_pos hn]
open Classical in
theorem moveE_loop (h : CheckM m) (hw : p ≠ 0 → wordA role = true) (hn : ¬ (atI m.nodes id < 0 ∨ (p ≠ 0 ∧ atI m.nodes p < 0))) (hl : p = id ∨ p ∈ belowL m id) : moveE m id p role a = 21 := by
  unfold moveE; rw [if_neg (fun e => e h), if_neg (fun e => by rw [hw e.1] at e; exact absurd e.2 (by simp)), if_neg hn, if_pos hl]
open Classical in
theorem moveE_goal (h : CheckM m) (hw : p ≠ 0 → wordA role = true) (hn : ¬ (atI m.nodes id < 0 ∨ (p ≠ 0 ∧ atI m.nodes p < 0))) (hl : ¬ (p = id ∨ p ∈ belowL m id)) : moveE m id p role a = goalE (mu m (nodeOf m id)) p role a (dN m p) (heightN m id : Nat) := by
  unfold moveE; rw [if_neg (fun e => e h), if_neg (fun e => by rw [hw e.1] at e; exact absurd e.2 (by simp)), if_neg hn, if_neg hl]
end
/-- the same where the model lies in lists of the call's own -/
def ResOwn (w' : World) (base : Nat) (next E : Int) (ns : List ANode) (v : Value) : Prop :=
  (E ≠ 0 ∧ v = .tuple #[.agg #[.int .i64 0, .slice none 0 0], .int .i64 E]) ∨
  (E = 0 ∧ ∃ vl l, v = .tuple #[.agg #[.int .i64 next, vl], .int .i64 0] ∧ OwnM w' base vl l ∧ l.map LN.n = ns)
end Go.Proofs.Ytmafhaadcjgcbaa
end
