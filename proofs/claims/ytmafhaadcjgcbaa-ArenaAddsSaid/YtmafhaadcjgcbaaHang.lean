import Derived.Test.YtmafhaadcjgcbaaMut3
import Derived.Test.YtmafhaadcjgcbaaGoal
import Derived.Test.YtmafhaadcjgcbaaInsert
namespace Go.Proofs.Ytmafhaadcjgcbaa
open Go Go.RowKit

set_option maxRecDepth 100000 in
set_option maxHeartbeats 4000000 in
theorem hangKid_any (next : Int) (v : Value) (l : List LN) (w : World) (base : Nat) (O : Nat → Prop) (hOO : ∀ b, some b ∈ (v.ownBlock :: allBlocks l) → O b) (hO : OwnM w base v l) (hbw : base ≤ w.heap.size) (hS : SrtB (l.map LN.n)) (hr : ∀ x ∈ l.map LN.n, ∀ k ∈ x.kids, InR k) (hl : l.length ≤ 1048576)
    (jn : Nat) (hjn : jn < l.length) (X : LN) (hX : l[jn] = X) (jp : Nat) (hjp : jp < l.length) (Y : LN) (hY : l[jp] = Y) (hne : jp ≠ jn) (role : ByteArray) (a : Int) (ha : InR a)
    (hF : Closed ((l.map LN.n).set jn { X.n with parent := Y.n.id, role := role })) (i : Int) (hsp : spotI Y.n.kids (inL ⟨next, (l.map LN.n).set jn { X.n with parent := Y.n.id, role := role }⟩ Y.n role) a = some i) (hk4 : Y.n.kids.length ≤ 4096) :
    Calls Try.prog 83 #[.agg #[.int .i64 next, v], .int .i64 X.n.id, .int .i64 Y.n.id, .string role, .int .i64 a] w fun e w' => e = .returned (.tuple #[]) ∧
      ∃ l', OwnM w' base v l' ∧ l'.map LN.n = ((l.map LN.n).set jn { X.n with parent := Y.n.id, role := role }).set jp { Y.n with kids := insAt Y.n.kids i.toNat X.n.id } ∧ KeepO O w w' := by
  obtain ⟨g, cap, rfl, hnc, hcm, hgb, hgw⟩ := own_some hO.row (by omega)
  have HOG : O g := hOO g (by show some g ∈ some g :: _; exact List.mem_cons_self ..)
  have HOK : Hid (∀ b, Y.k.ownBlock = some b → O b) := Lib.hid (fun b e => hOO b (List.mem_cons_of_mem _ (mem_all (x := Y) (by rw [← hY]; exact List.getElem_mem hjp) (by simp [LN.blocks, e]))))
  obtain ⟨ns, hns⟩ : ∃ ns, l.map LN.n = ns := ⟨_, rfl⟩
  have hlen : l.length = ns.length := by rw [← hns]; simp
  have hXn : ns[jn]? = some X.n := by rw [← hns]; simp [hjn, hX]
  have hYn : ns[jp]? = some Y.n := by rw [← hns]; simp [hjp, hY]
  rw [hns] at hS hr hF hsp ⊢
  rw [hlen] at hO ⊢
  have hjn2 : jn < ns.length := by omega
  have hjp2 : jp < ns.length := by omega
  have hXg : ns[jn] = X.n := by rw [List.getElem?_eq_getElem hjn2] at hXn; injection hXn
  have hYg : ns[jp] = Y.n := by rw [List.getElem?_eq_getElem hjp2] at hYn; injection hYn
  have hXi := hS.2 jn hjn2; have hYi := hS.2 jp hjp2
  rw [hXg] at hXi; rw [hYg] at hYi
  have hatX : atI ns X.n.id = jn := by rw [← hXg]; exact atI_some hS.1 hjn2 rfl
  -- the nodes behind the two stores
  obtain ⟨ns1, hns1⟩ : ∃ ns1, ns.set jn { X.n with parent := Y.n.id, role := role } = ns1 := ⟨_, rfl⟩
  have hids : ns1.map (·.id) = ns.map (·.id) := by
    rw [← hns1]
    apply List.ext_getElem (by simp)
    intro q h1 h2
    simp only [List.getElem_map]
    by_cases hq : q = jn
    · subst hq; simp [hXg]
    · rw [List.getElem_set_ne (by omega)]
  have hS1 := srtB_congr hS hids
  have hlen1 : ns1.length = ns.length := by rw [← hns1]; simp
  have hY1 : ∃ h : jp < ns1.length, ns1[jp]'h = Y.n := ⟨by omega, by simp only [← hns1]; rw [List.getElem_set_ne (by omega), hYg]⟩
  have hatY : atI ns1 Y.n.id = jp := by obtain ⟨h, e⟩ := hY1; rw [← e]; exact atI_some hS1.1 h rfl
  rw [hns1] at hF hsp ⊢
  have hr1 : ∀ x ∈ ns1, ∀ k ∈ x.kids, InR k := fun x hx k hk => by
    rw [← hns1] at hx
    rcases List.mem_or_eq_of_mem_set hx with hx | rfl
    · exact hr x hx k hk
    · exact hr X.n (by rw [← hXg]; exact List.getElem_mem _) k hk
  have hi0 := spotI_le inL_sub hsp
  obtain ⟨q0, rfl⟩ : ∃ q : Nat, i = q := ⟨i.toNat, by omega⟩
  have HSP := Lib.hid hsp; have HF := Lib.hid hF; have HS := Lib.hid hS; have HS1 := Lib.hid hS1; have HR1 := Lib.hid hr1; have HNS := Lib.hid hns; have HNS1 := Lib.hid hns1; have HX := Lib.hid hX; have HY := Lib.hid hY; have HY1 := Lib.hid hY1; have HO := Lib.hid hO; have HLEN := Lib.hid hlen; have HL1 := Lib.hid hlen1
  have HATX := Lib.hid hatX; have HATY := Lib.hid hatY
  have hp0 : (Y.n.id == 0) = false := beq_eq_false_iff_ne.2 (by omega)
  have hXr : InR X.n.id := by unfold InR; omega
  have hYr : InR Y.n.id := by unfold InR; omega
  rw [hlen] at hl
  unfold maxLen at hcm
  clear hsp hF hS hS1 hr hr1 hns hns1 hX hY hY1 hO hXn hYn hXg hYg hids hatX hatY hlen hlen1
  have HB0 := Lib.hid ((KeepO.refl O w).alloc (.cells #[.int .i64 next, .slice (some ⟨g, 0, none⟩) ns.length cap] 24))
  have HM0 := Lib.hid (Blk.new w 24 #[.int .i64 next, .slice (some ⟨g, 0, none⟩) ns.length cap])
  have HO0 := Lib.hid (HO.out.below ((Below.refl w.heap.size w).alloc (Nat.le_refl _) (.cells #[.int .i64 next, .slice (some ⟨g, 0, none⟩) ns.length cap] 24)))
  have hgm : g ≠ w.heap.size := by omega
  go_enter Try.func83, Try.ntmps83
  go_wp2_with fail
  obtain ⟨u0, hu0⟩ : ∃ u : World, w.alloc (.cells #[.int .i64 next, .slice (some ⟨g, 0, none⟩) ns.length cap] 24) = u := ⟨_, rfl⟩
  rw [hu0] at HB0 HM0 HO0
  (try rw [hu0])
  have hbu : base ≤ u0.heap.size := by rw [← hu0]; simp; omega
  clear hu0
  have hj0 : (0 : Int) ≤ jn := by omega
  have hj1 : (jn : Int) < ns.length := by omega
  have hj2 : (0 : Int) ≤ jp := by omega
  have hj3 : (jp : Int) < ns.length := by omega
  have m0 := HM0.out.cell 0; have m1 := HM0.out.cell 1
  have hmlt := HM0.out.lt
  simp at m0 m1
  have CP := Lib.hid (fun (d : Nat) (os : Array Obj) => Calls.regrown_of (w := u0) (d := d) (os := os) (by
    have ho := HO0.out.below (below_regrown u0 d os)
    have := place_any (some ⟨g, 0, none⟩) cap next X.n.id ns (Sort.grow (redrawn u0 d) os) (fun b => base ≤ b ∧ b < (Sort.grow (redrawn u0 d) os).heap.size) (fun b hb => hb.2) (by rw [← HNS.out]; exact ho.rowOf (fun b h1 h2 => ⟨h1, h2⟩)) HS.out hXr (by omega)
    rw [HATX.out] at this; exact this))
  have k0 := cell_regrown m0; have k1 := cell_regrown m1
  clear m0 m1
  refine wp_region_quiet_below (by kernel_rfl) (by kernel_rfl) ?_
  repeat (first | go_big_quiet_step (exact CP.out _ _) | quiet_step (exact CP.out _ _))
  refine wpQuiet_nil ?_
  intro _ hw'
  obtain ⟨⟨dq, osq⟩, hw''⟩ := hw'
  subst hw''
  have hbr := below_regrown u0 dq osq
  have HB1 := Lib.hid (HB0.out.below hbr)
  have HM1 := Lib.hid (HM0.out.below hbr hmlt)
  have HO1 := Lib.hid (HO0.out.below hbr)
  have hbu2 := Nat.le_trans hbu hbr.size
  clear k0 k1 CP hbr
  obtain ⟨u1, hu⟩ : ∃ z : World, Sort.grow (redrawn u0 dq) osq = z := ⟨_, rfl⟩
  rw [hu] at HB1 HM1 HO1 hbu2 ⊢
  clear hu hmlt hbu
  have hbu := hbu2
  clear hbu2
  have c2 := HO1.out.cell (i := jn) (j := 2) hjn (by omega); have c3 := HO1.out.cell (i := jn) (j := 3) hjn (by omega)
  have z2 := HO1.out.frozen (jn * 7 + 2); have z3 := HO1.out.frozen (jn * 7 + 3)
  rw [HX.out] at c2 c3
  simp [LN.cells, nodeCellsA] at c2 c3
  have hXL := HX.out
  have HO2 := Lib.hid ((HO1.out.setHead hjn (j := 2) (by omega) (.int .i64 Y.n.id) { X with n := { X.n with parent := Y.n.id } } (by rw [hXL]; rfl) (by rw [hXL]; exact ⟨rfl, rfl, rfl⟩) (by rw [hXL]; exact ⟨rfl, rfl, rfl⟩)).setHead (i := jn) (by simpa using hjn) (j := 3) (by omega) (.string role) { X with n := { X.n with parent := Y.n.id, role := role } } (by rw [List.getElem_set_self]; rfl) (by rw [List.getElem_set_self]; exact ⟨rfl, rfl, rfl⟩) (by rw [List.getElem_set_self]; exact ⟨rfl, rfl, rfl⟩))
  rw [List.set_set] at HO2
  have HB2 := Lib.hid ((HB1.out.set_ HOG (jn * 7 + 2) (.int .i64 Y.n.id)).set_ HOG (jn * 7 + 3) (.string role))
  have HM2 := Lib.hid ((HM1.out.far (p := ⟨g, jn * 7 + 2, none⟩) (Ne.symm hgm) (.int .i64 Y.n.id)).far (p := ⟨g, jn * 7 + 3, none⟩) (Ne.symm hgm) (.string role))
  have hbu2 : base ≤ ((u1.setCell ⟨g, jn * 7 + 2, none⟩ (.int .i64 Y.n.id)).setCell ⟨g, jn * 7 + 3, none⟩ (.string role)).heap.size := by simpa using hbu
  have HWE : Hid (∃ z, z = (u1.setCell ⟨g, jn * 7 + 2, none⟩ (.int .i64 Y.n.id)).setCell ⟨g, jn * 7 + 3, none⟩ (.string role)) := Lib.hid ⟨_, rfl⟩
  clear hXL hbu
  go_upto_region 3 with fail
  obtain ⟨u2, hu2⟩ := HWE.out
  rw [← hu2] at HO2 HB2 HM2 hbu2
  (try rw [← hu2])
  have hbu := hbu2
  clear hu2 HWE c2 c3 z2 z3 hbu2 HO1 HB1 HM1
  have HMAP : Hid ((l.set jn { X with n := { X.n with parent := Y.n.id, role := role } }).map LN.n = ns1) := Lib.hid (by rw [List.map_set, HNS.out, HNS1.out])
  have HL1' : Hid (ns1.length = ns.length) := HL1
  obtain ⟨l1, hl1⟩ : ∃ l1, l.set jn { X with n := { X.n with parent := Y.n.id, role := role } } = l1 := ⟨_, rfl⟩
  have hlp : ∃ h : jp < l1.length, l1[jp] = Y := by
    subst hl1
    exact ⟨by simpa using hjp, by rw [List.getElem_set_ne (by omega)]; exact HY.out⟩
  rw [hl1] at HO2 HMAP
  clear hl1
  obtain ⟨hjp1, hYl⟩ := hlp
  have HYL := Lib.hid hYl
  clear hYl
  have m0 := HM2.out.cell 0; have m1 := HM2.out.cell 1
  have hmlt := HM2.out.lt
  simp at m0 m1
  have HSPC : Hid (Calls Try.prog 118 #[.agg #[.int .i64 next, .slice (some ⟨g, 0, none⟩) ns.length cap], .int .i64 Y.n.id, .string role, .int .i64 a] u2 fun e w' => e = .returned (.tuple #[.int .i64 q0, .bool true]) ∧ Below u2.heap.size u2 w') := Lib.hid (by
    have := spot_any (some ⟨g, 0, none⟩) cap ⟨next, ns1⟩ u2 (fun b => base ≤ b ∧ b < u2.heap.size) (fun b hb => hb.2) (by rw [← HMAP.out]; exact HO2.out.rowOf (fun b h1 h2 => ⟨h1, h2⟩)) (fam_of HS1.out HF.out) HS1.out HR1.out (by show ns1.length ≤ _; rw [HL1.out]; omega) jp HY1.out.choose Y.n HY1.out.choose_spec hk4 role a ha
    rw [HSP.out] at this
    simp only [HL1.out] at this
    exact this)
  go_wp2_with fail
  refine HSPC.out.mono ?_
  rintro _ w3 ⟨rfl, hb3⟩
  have HB3 := Lib.hid (HB2.out.below hb3)
  have HM3 := Lib.hid (HM2.out.below hb3 hmlt)
  have HO3 := Lib.hid (HO2.out.below hb3)
  have hbu3 := Nat.le_trans hbu hb3.size
  clear hb3 m0 m1 hmlt HO2 HB2 HM2 HSPC hbu
  have hbu := hbu3
  clear hbu3
  go_wp2_with fail
  have m0 := HM3.out.cell 0; have m1 := HM3.out.cell 1
  have hmlt := HM3.out.lt
  simp at m0 m1
  have CP := Lib.hid (fun (d : Nat) (os : Array Obj) => Calls.regrown_of (w := w3) (d := d) (os := os) (by
    have ho := HO3.out.below (below_regrown w3 d os)
    have := place_any (some ⟨g, 0, none⟩) cap next Y.n.id ns1 (Sort.grow (redrawn w3 d) os) (fun b => base ≤ b ∧ b < (Sort.grow (redrawn w3 d) os).heap.size) (fun b hb => hb.2) (by rw [← HMAP.out]; exact ho.rowOf (fun b h1 h2 => ⟨h1, h2⟩)) HS1.out hYr (by have := HL1.out; omega)
    rw [HATY.out, HL1.out] at this; exact this))
  have k0 := cell_regrown m0; have k1 := cell_regrown m1
  clear m0 m1
  refine wp_region_quiet_below (by kernel_rfl) (by kernel_rfl) ?_
  repeat (first | go_big_quiet_step (exact CP.out _ _) | quiet_step (exact CP.out _ _))
  refine wpQuiet_nil ?_
  intro _ hw'
  obtain ⟨⟨dq, osq⟩, hw''⟩ := hw'
  subst hw''
  have hbr := below_regrown w3 dq osq
  have HB4 := Lib.hid (HB3.out.below hbr)
  have HM4 := Lib.hid (HM3.out.below hbr hmlt)
  have HO4 := Lib.hid (HO3.out.below hbr)
  have hbu2 := Nat.le_trans hbu hbr.size
  clear k0 k1 CP hbr
  obtain ⟨u4, hu⟩ : ∃ z : World, Sort.grow (redrawn w3 dq) osq = z := ⟨_, rfl⟩
  rw [hu] at HB4 HM4 HO4 hbu2 ⊢
  clear hu hmlt hbu
  have hbu := hbu2
  clear hbu2
  have c5 := HO4.out.cell (i := jp) (j := 5) hjp1 (by omega)
  rw [HYL.out] at c5
  simp [LN.cells, nodeCellsA] at c5
  have hYL := HYL.out
  have hol := HO4.out.lists Y (by rw [← hYL]; exact List.getElem_mem hjp1)
  have hYb : Y.k.ownBlock ∈ (l1[jp]).blocks := by rw [hYL]; simp [LN.blocks]
  have HYB := Lib.hid hYb
  have HNG : Hid (Y.k.ownBlock ≠ some g) := Lib.hid (fun e => HO4.out.row_ne (List.getElem_mem hjp1) (b := g) (by rw [← e]; exact hYb) rfl)
  have HOL := Lib.hid hol
  obtain ⟨Ak, nk, hAk⟩ := hol.k.shape
  have HAK := Lib.hid hAk
  clear hYL hol hYb hAk
  obtain ⟨q, hq⟩ : ∃ q, u4.heap.size = q := ⟨_, rfl⟩
  have HB5 := Lib.hid (HB4.out.alloc (.cells #[.int .i64 X.n.id] 3))
  have HQ5 : Hid (Blk (u4.alloc (.cells #[.int .i64 X.n.id] 3)) q 3 (intCells X.n.id).toArray) := Lib.hid (by rw [← hq]; exact Blk.new _ _ _)
  have HO5 := Lib.hid (HO4.out.below ((Below.refl u4.heap.size u4).alloc (Nat.le_refl _) (.cells #[.int .i64 X.n.id] 3)))
  have HLT : Hid (∀ b, some b ∈ Y.blocks → b < q) := Lib.hid (fun b hb => by rw [← hq]; exact (HOL.out.lt b hb).2)
  go_wp2_with fail
  (try rw [hq])
  obtain ⟨u5, hu5⟩ : ∃ z : World, u4.alloc (.cells #[.int .i64 X.n.id] 3) = z := ⟨_, rfl⟩
  have hbu5 : base ≤ u5.heap.size := by rw [← hu5]; simp; omega
  rw [hu5] at HB5 HQ5 HO5 ⊢
  clear hu5 hq c5 hbu
  have HOL5 := Lib.hid (HO5.out.lists Y (by rw [← HYL.out]; exact List.getElem_mem hjp1))
  have hko : u5.ownsRow base 3 1 Y.k Y.n.kids.length (Y.n.kids.flatMap intCells) := by rw [intCells_map]; exact HOL5.out.k
  refine (insInt_any Y.k Y.n.kids q0 X.n.id q u5 base hko HQ5.out (fun e => by have := HLT.out q (by rw [← e]; simp [LN.blocks]); omega) (by omega) hbu5 (by omega)).mono ?_
  rintro _ w6 ⟨v', rfl, hown, hg6, hat6⟩
  have hkl6 : (insAt Y.n.kids q0 X.n.id).length = Y.n.kids.length + 1 := insAt_len (by omega) _
  have HOW : Hid (OwnI w6 base v' (insAt Y.n.kids q0 X.n.id)) := Lib.hid (by unfold OwnI; rw [hkl6, ← intCells_map]; exact hown)
  obtain ⟨A6, n6, rfl⟩ := HOW.out.shape
  have HG6 := Lib.hid hg6
  have HAT6 := Lib.hid hat6
  have hrowb := HO5.out.row.lt g rfl
  have hg6g : w6.heap[g]? = u5.heap[g]? := hg6.block g hrowb.2 (fun e => HNG.out e.symm)
  have c5 : w6.cell? ⟨g, jp * 7 + 5, none⟩ = some (.slice Ak Y.n.kids.length nk) := by
    have h := HO5.out.cell (i := jp) (j := 5) hjp1 (by omega)
    rw [HYL.out] at h
    rw [World.cell?_of_block (w := u5) (a := ⟨g, jp * 7 + 5, none⟩) hg6g, h]
    simp [LN.cells, nodeCellsA, HAK.out]
  have z5 : w6.frozen? ⟨g, jp * 7 + 5, none⟩ = false := by
    rw [World.frozen?_of_block (w := u5) (a := ⟨g, jp * 7 + 5, none⟩) hg6g]; exact HO5.out.frozen _
  have HB6 := Lib.hid (HB5.out.grown hg6 (fun b e => HOK.out b e))
  have HB7 := Lib.hid (HB6.out.set_ HOG (jp * 7 + 5) (.slice A6 (insAt Y.n.kids q0 X.n.id).length n6))
  clear hown hg6 hat6 hkl6 hko hg6g
  have HO7 : Hid (OwnM (w6.setCell ⟨g, jp * 7 + 5, none⟩ (.slice A6 (insAt Y.n.kids q0 X.n.id).length n6)) base (.slice (some ⟨g, 0, none⟩) ns.length cap) (l1.set jp ⟨{ Y.n with kids := insAt Y.n.kids q0 X.n.id }, Y.p, .slice A6 (insAt Y.n.kids q0 X.n.id).length n6, Y.r⟩)) := Lib.hid (by
    have hY := HYL.out
    refine HO5.out.setList hjp1 (j := 5) (by omega) _ Y.k (.slice A6 (insAt Y.n.kids q0 X.n.id).length n6) HG6.out HYB.out ?_ (by rw [hY]; rfl) (fun o => ?_) (fun hk => ?_) (fun b hb e => ?_)
    · rcases HAT6.out with e | ⟨b, e, hb⟩
      · exact .inl e
      · exact .inr (.inr ⟨b, e, hb⟩)
    · rw [hY]; simp only [LN.blocks, List.count_cons, List.count_nil]; omega
    · rw [hY] at hk
      refine ⟨own_keep HOL5.out.p fun b e => hk b (by simp [LN.blocks, e]) ?_, HOW.out, own_keep HOL5.out.r fun b e => hk b (by simp [LN.blocks, e]) ?_⟩
      · intro e2
        have h1 := HO5.out.dis b
        rw [List.count_cons] at h1
        have h2 := all_set_count hjp1 ⟨Y.n, .slice none 0 0, .slice none 0 0, .slice none 0 0⟩ (some b)
        rw [hY] at h2
        have h3 : 2 ≤ Y.blocks.count (some b) := by simp [LN.blocks, List.count_cons, e, ← e2]
        have h4 : (LN.blocks ⟨Y.n, .slice none 0 0, .slice none 0 0, .slice none 0 0⟩).count (some b) = 0 := by simp [LN.blocks, Value.ownBlock]
        omega
      · intro e2
        have h1 := HO5.out.dis b
        rw [List.count_cons] at h1
        have h2 := all_set_count hjp1 ⟨Y.n, .slice none 0 0, .slice none 0 0, .slice none 0 0⟩ (some b)
        rw [hY] at h2
        have h3 : 2 ≤ Y.blocks.count (some b) := by simp [LN.blocks, List.count_cons, e, ← e2]
        have h4 : (LN.blocks ⟨Y.n, .slice none 0 0, .slice none 0 0, .slice none 0 0⟩).count (some b) = 0 := by simp [LN.blocks, Value.ownBlock]
        omega
    · subst e
      have hrow := HO5.out.row_ne (List.getElem_mem hjp1) (b := b)
      rw [hY] at hrow
      simp only [LN.blocks, List.mem_cons, List.not_mem_nil, or_false] at hb hrow
      rcases hb with hb | hb | hb
      · exact hrow (.inl hb) rfl
      · rcases HAT6.out with e | ⟨b2, e, hb2⟩
        · exact hrow (.inr (.inl (hb.trans e))) rfl
        · have hbb : b = b2 := by have := hb.trans e; injection this
          have := HO5.out.row.lt b rfl
          omega
      · exact hrow (.inr (.inr hb)) rfl)
  go_wp2
  go_end0
  exact ⟨rfl, _, HO7.out, by rw [List.map_set, HMAP.out]; rfl, HB7.out⟩

set_option maxRecDepth 100000 in
set_option maxHeartbeats 4000000 in
theorem hangRoot_any (next : Int) (v : Value) (l : List LN) (w : World) (base : Nat) (O : Nat → Prop) (hOO : ∀ b, some b ∈ (v.ownBlock :: allBlocks l) → O b) (hO : OwnM w base v l) (hbw : base ≤ w.heap.size) (hS : SrtB (l.map LN.n)) (hl : l.length ≤ 1048576)
    (jn : Nat) (hjn : jn < l.length) (X : LN) (hX : l[jn] = X) (role : ByteArray) (a : Int) :
    Calls Try.prog 83 #[.agg #[.int .i64 next, v], .int .i64 X.n.id, .int .i64 0, .string role, .int .i64 a] w fun e w' => e = .returned (.tuple #[]) ∧
      ∃ l', OwnM w' base v l' ∧ l'.map LN.n = (l.map LN.n).set jn { X.n with parent := 0, role := role } ∧ KeepO O w w' := by
  obtain ⟨g, cap, rfl, hnc, hcm, hgb, hgw⟩ := own_some hO.row (by omega)
  have HOG : O g := hOO g (by show some g ∈ some g :: _; exact List.mem_cons_self ..)
  obtain ⟨ns, hns⟩ : ∃ ns, l.map LN.n = ns := ⟨_, rfl⟩
  have hlen : l.length = ns.length := by rw [← hns]; simp
  have hXn : ns[jn]? = some X.n := by rw [← hns]; simp [hjn, hX]
  rw [hns] at hS ⊢
  rw [hlen] at hO ⊢
  have hjn2 : jn < ns.length := by omega
  have hXg : ns[jn] = X.n := by rw [List.getElem?_eq_getElem hjn2] at hXn; injection hXn
  have hXi := hS.2 jn hjn2
  rw [hXg] at hXi
  have hatX : atI ns X.n.id = jn := by rw [← hXg]; exact atI_some hS.1 hjn2 rfl
  have HS := Lib.hid hS; have HNS := Lib.hid hns; have HX := Lib.hid hX; have HO := Lib.hid hO; have HLEN := Lib.hid hlen
  have HATX := Lib.hid hatX
  have hp0 : ((0 : Int) == 0) = true := by decide
  have hXr : InR X.n.id := by unfold InR; omega
  rw [hlen] at hl
  unfold maxLen at hcm
  clear hS hns hX hO hXn hXg hatX hlen
  have HB0 := Lib.hid ((KeepO.refl O w).alloc (.cells #[.int .i64 next, .slice (some ⟨g, 0, none⟩) ns.length cap] 24))
  have HM0 := Lib.hid (Blk.new w 24 #[.int .i64 next, .slice (some ⟨g, 0, none⟩) ns.length cap])
  have HO0 := Lib.hid (HO.out.below ((Below.refl w.heap.size w).alloc (Nat.le_refl _) (.cells #[.int .i64 next, .slice (some ⟨g, 0, none⟩) ns.length cap] 24)))
  have hgm : g ≠ w.heap.size := by omega
  go_enter Try.func83, Try.ntmps83
  go_wp2_with fail
  obtain ⟨u0, hu0⟩ : ∃ u : World, w.alloc (.cells #[.int .i64 next, .slice (some ⟨g, 0, none⟩) ns.length cap] 24) = u := ⟨_, rfl⟩
  rw [hu0] at HB0 HM0 HO0
  (try rw [hu0])
  have hbu : base ≤ u0.heap.size := by rw [← hu0]; simp; omega
  clear hu0
  have hj0 : (0 : Int) ≤ jn := by omega
  have hj1 : (jn : Int) < ns.length := by omega
  have m0 := HM0.out.cell 0; have m1 := HM0.out.cell 1
  have hmlt := HM0.out.lt
  simp at m0 m1
  have CP := Lib.hid (fun (d : Nat) (os : Array Obj) => Calls.regrown_of (w := u0) (d := d) (os := os) (by
    have ho := HO0.out.below (below_regrown u0 d os)
    have := place_any (some ⟨g, 0, none⟩) cap next X.n.id ns (Sort.grow (redrawn u0 d) os) (fun b => base ≤ b ∧ b < (Sort.grow (redrawn u0 d) os).heap.size) (fun b hb => hb.2) (by rw [← HNS.out]; exact ho.rowOf (fun b h1 h2 => ⟨h1, h2⟩)) HS.out hXr (by omega)
    rw [HATX.out] at this; exact this))
  have k0 := cell_regrown m0; have k1 := cell_regrown m1
  clear m0 m1
  refine wp_region_quiet_below (by kernel_rfl) (by kernel_rfl) ?_
  repeat (first | go_big_quiet_step (exact CP.out _ _) | quiet_step (exact CP.out _ _))
  refine wpQuiet_nil ?_
  intro _ hw'
  obtain ⟨⟨dq, osq⟩, hw''⟩ := hw'
  subst hw''
  have hbr := below_regrown u0 dq osq
  have HB1 := Lib.hid (HB0.out.below hbr)
  have HM1 := Lib.hid (HM0.out.below hbr hmlt)
  have HO1 := Lib.hid (HO0.out.below hbr)
  have hbu2 := Nat.le_trans hbu hbr.size
  clear k0 k1 CP hbr
  obtain ⟨u1, hu⟩ : ∃ z : World, Sort.grow (redrawn u0 dq) osq = z := ⟨_, rfl⟩
  rw [hu] at HB1 HM1 HO1 hbu2 ⊢
  clear hu hmlt hbu
  have hbu := hbu2
  clear hbu2
  have c2 := HO1.out.cell (i := jn) (j := 2) hjn (by omega); have c3 := HO1.out.cell (i := jn) (j := 3) hjn (by omega)
  have z2 := HO1.out.frozen (jn * 7 + 2); have z3 := HO1.out.frozen (jn * 7 + 3)
  rw [HX.out] at c2 c3
  simp [LN.cells, nodeCellsA] at c2 c3
  have hXL := HX.out
  have HO2 := Lib.hid ((HO1.out.setHead hjn (j := 2) (by omega) (.int .i64 0) { X with n := { X.n with parent := 0 } } (by rw [hXL]; rfl) (by rw [hXL]; exact ⟨rfl, rfl, rfl⟩) (by rw [hXL]; exact ⟨rfl, rfl, rfl⟩)).setHead (i := jn) (by simpa using hjn) (j := 3) (by omega) (.string role) { X with n := { X.n with parent := 0, role := role } } (by rw [List.getElem_set_self]; rfl) (by rw [List.getElem_set_self]; exact ⟨rfl, rfl, rfl⟩) (by rw [List.getElem_set_self]; exact ⟨rfl, rfl, rfl⟩))
  rw [List.set_set] at HO2
  have HB2 := Lib.hid ((HB1.out.set_ HOG (jn * 7 + 2) (.int .i64 0)).set_ HOG (jn * 7 + 3) (.string role))
  clear hXL
  go_wp2
  refine bodyPost_ret (results_none rfl _ _ _) rfl ?_
  exact ⟨rfl, _, HO2.out, by rw [List.map_set, HNS.out], HB2.out⟩
end Go.Proofs.Ytmafhaadcjgcbaa
