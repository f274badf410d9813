import Derived.Test.YtmafhaadcjgcbaaMoveP
import Derived.Test.YtmafhaadcjgcbaaUnhang
import Derived.Test.YtmafhaadcjgcbaaQTail
import Derived.Lib.QuietBelow
import Derived.Test.YtmafhaadcjgcbaaMove
import Derived.Test.YtmafhaadcjgcbaaTwinR
set_option linter.unusedSimpArgs false
set_option linter.unusedVariables false
section
/- a node is taken out of its parent's kids, as the document has it: topiaryref02.take -/
namespace Go.Proofs.Ytmafhaadcjgcbaa
open Go Go.RowKit

set_option maxRecDepth 100000 in
set_option maxHeartbeats 4000000 in
theorem takeKid_any (next : Int) (v : Value) (l : List LN) (w : World) (base : Nat) (O : Nat → Prop) (hOO : ∀ b, some b ∈ (v.ownBlock :: allBlocks l) → O b) (hO : OwnM w base v l) (hbw : base ≤ w.heap.size) (hS : SrtB (l.map LN.n)) (hl : l.length ≤ 1048576)
    (jn : Nat) (hjn : jn < l.length) (X : LN) (hX : l[jn] = X) (jp : Nat) (hjp : jp < l.length) (Y : LN) (hY : l[jp] = Y) (hpar : X.n.parent = Y.n.id) (hk4 : Y.n.kids.length ≤ 4096) :
    Calls Try.prog 102 #[.agg #[.int .i64 next, v], .int .i64 X.n.id] w fun e w' => e = .returned (.tuple #[]) ∧
      ∃ l', OwnM w' base v l' ∧ l'.map LN.n = unhangN (l.map LN.n) X.n.parent X.n.id ∧ KeepO O w w' := by
  obtain ⟨g, cap, rfl, hnc, hcm, hgb, hgw⟩ := own_some hO.row (by omega)
  have HOG : O g := hOO g (by show some g ∈ some g :: _; exact List.mem_cons_self ..)
  obtain ⟨ns, hns⟩ : ∃ ns, l.map LN.n = ns := ⟨_, rfl⟩
  have hlen : l.length = ns.length := by rw [← hns]; simp
  have hXn : ns[jn]? = some X.n := by rw [← hns]; simp [hjn, hX]
  have hYn : ns[jp]? = some Y.n := by rw [← hns]; simp [hjp, hY]
  rw [hns] at hS ⊢
  rw [hlen] at hO ⊢
  have hjn2 : jn < ns.length := by omega
  have hXg : ns[jn] = X.n := by rw [List.getElem?_eq_getElem hjn2] at hXn; injection hXn
  have hXi := hS.2 jn hjn2
  rw [hXg] at hXi
  have hatX : atI ns X.n.id = jn := by rw [← hXg]; exact atI_some hS.1 hjn2 rfl
  have hjp2 : jp < ns.length := by omega
  have hYg : ns[jp] = Y.n := by rw [List.getElem?_eq_getElem hjp2] at hYn; injection hYn
  have hYi := hS.2 jp hjp2
  rw [hYg] at hYi
  have hatY : atI ns Y.n.id = jp := by rw [← hYg]; exact atI_some hS.1 hjp2 rfl
  have HATY := Lib.hid hatY
  have hp0 : (Y.n.id == 0) = false := beq_eq_false_iff_ne.2 (by omega)
  have hYr : InR Y.n.id := by unfold InR; omega
  have HY := Lib.hid hY
  rw [hpar]
  have HPAR := Lib.hid hpar
  have HEND : Hid (ns.set jp { Y.n with kids := keepQ (fun k => k == X.n.id) Y.n.kids } = unhangN ns Y.n.id X.n.id) := Lib.hid (by
    have h := unhangN_set (id := X.n.id) hS hjp2
    rw [hYg] at h; exact h)
  have hXr : InR X.n.id := by unfold InR; omega
  have HS := Lib.hid hS; have HNS := Lib.hid hns; have HX := Lib.hid hX; have HO := Lib.hid hO
  have HATX := Lib.hid hatX
  rw [hlen] at hl
  unfold maxLen at hcm
  clear hS hns hX hO hXn hXg hatX hlen hYn hYg hatY hY hpar
  have hgm : g ≠ w.heap.size := by omega
  have HB0 := Lib.hid ((KeepO.refl O w).alloc (.cells #[.int .i64 next, .slice (some ⟨g, 0, none⟩) ns.length cap] 24))
  have HM0 := Lib.hid (Blk.new w 24 #[.int .i64 next, .slice (some ⟨g, 0, none⟩) ns.length cap])
  have HO0 := Lib.hid (HO.out.below ((Below.refl w.heap.size w).alloc (Nat.le_refl _) (.cells #[.int .i64 next, .slice (some ⟨g, 0, none⟩) ns.length cap] 24)))
  go_enter Try.func102, Try.ntmps102
  go_wp2_with fail
  obtain ⟨u0, hu0⟩ : ∃ u : World, w.alloc (.cells #[.int .i64 next, .slice (some ⟨g, 0, none⟩) ns.length cap] 24) = u := ⟨_, rfl⟩
  rw [hu0] at HB0 HM0 HO0
  (try rw [hu0])
  have hbu : base ≤ u0.heap.size := by rw [← hu0]; simp; omega
  clear hu0
  have hj0 : (0 : Int) ≤ jn := by omega
  have hj1 : (jn : Int) < ns.length := by omega
  have hj2 : (0 : Int) ≤ jp := by omega
  have hj3 : (jp : Int) < ns.length := by omega
  have m0 := HM0.out.cell 0; have m1 := HM0.out.cell 1
  have hmlt := HM0.out.lt
  simp at m0 m1
  have c2 := HO0.out.cell (i := jn) (j := 2) hjn (by omega)
  rw [HX.out] at c2
  simp [LN.cells, nodeCellsA] at c2
  rw [HPAR.out] at c2
  have CP := Lib.hid (fun (d : Nat) (os : Array Obj) => Calls.regrown_of (w := u0) (d := d) (os := os) (by
    have ho := HO0.out.below (below_regrown u0 d os)
    have := at_any (some ⟨g, 0, none⟩) cap next X.n.id ns (Sort.grow (redrawn u0 d) os) (fun b => base ≤ b ∧ b < (Sort.grow (redrawn u0 d) os).heap.size) (fun b hb => hb.2) (by rw [← HNS.out]; exact ho.rowOf (fun b h1 h2 => ⟨h1, h2⟩)) HS.out.1 (by omega)
    rw [HATX.out] at this; exact this))
  have k0 := cell_regrown m0; have k1 := cell_regrown m1; have k3 := cell_regrown c2
  clear m0 m1
  refine wp_region_quiet_below (by kernel_rfl) (by kernel_rfl) ?_
  repeat (first | go_big_quiet_step (exact CP.out _ _) | quiet_step (exact CP.out _ _))
  refine wpQuiet_nil ?_
  intro _ hw'
  obtain ⟨⟨dq, osq⟩, hw''⟩ := hw'
  subst hw''
  have hbr := below_regrown u0 dq osq
  have HB1 := Lib.hid (HB0.out.below hbr)
  have HM1 := Lib.hid (HM0.out.below hbr hmlt)
  have HO1 := Lib.hid (HO0.out.below hbr)
  have hbu2 := Nat.le_trans hbu hbr.size
  clear k0 k1 k3 c2 CP hbr
  obtain ⟨u1, hu⟩ : ∃ z : World, Sort.grow (redrawn u0 dq) osq = z := ⟨_, rfl⟩
  rw [hu] at HB1 HM1 HO1 hbu2 ⊢
  clear hu hmlt hbu
  have hbu := hbu2
  clear hbu2
  have m0 := HM1.out.cell 0; have m1 := HM1.out.cell 1
  have hmlt := HM1.out.lt
  simp at m0 m1
  have HAT := Lib.hid (at_any (some ⟨g, 0, none⟩) cap next Y.n.id ns u1 (fun b => base ≤ b ∧ b < u1.heap.size) (fun b hb => hb.2) (by rw [← HNS.out]; exact HO1.out.rowOf (fun b h1 h2 => ⟨h1, h2⟩)) HS.out.1 (by omega))
  rw [HATY.out] at HAT
  go_wp2_with fail
  refine HAT.out.mono ?_
  rintro _ u2 ⟨rfl, hb⟩
  have HB2 := Lib.hid (HB1.out.below hb)
  have HM2 := Lib.hid (HM1.out.below hb hmlt)
  have HO2 := Lib.hid (HO1.out.below hb)
  have hbu2 := Nat.le_trans hbu hb.size
  clear hb HAT m0 m1 hmlt
  have hYL := HY.out
  have hol := HO2.out.lists Y (by rw [← hYL]; exact List.getElem_mem hjp)
  have HOL := Lib.hid hol
  obtain ⟨Ak, nk, hAk⟩ := hol.k.shape
  have HAK := Lib.hid hAk
  have HKR : Hid (RowOf 1 EInt u2 (fun b => b < u2.heap.size) Ak Y.n.kids) := Lib.hid (by
    obtain ⟨A', c', e, _, _, h3⟩ := hol.k.isRow (F := fun b => b < u2.heap.size) (fun b _ h => h)
    rw [hAk] at e
    injection e with e1; subst e1; exact h3)
  have hgl := (HO2.out.row.lt g rfl).2
  have HF2 : Hid (∀ u, Below u2.heap.size u2 u → u.cell? ⟨w.heap.size, 0, none⟩ = some (.int .i64 next) ∧ u.cell? ⟨w.heap.size, 1, none⟩ = some (.slice (some ⟨g, 0, none⟩) ns.length cap) ∧ u.cell? ⟨g, jp * 7 + 5, none⟩ = some (.slice Ak Y.n.kids.length nk)) := Lib.hid (fun u hu => by
    have h := HO2.out.cell (i := jp) (j := 5) hjp (by omega)
    rw [HY.out] at h
    simp [LN.cells, nodeCellsA, HAK.out] at h
    have a0 := HM2.out.cell 0; have a1 := HM2.out.cell 1
    simp at a0 a1
    exact ⟨(hu.cell (p := ⟨w.heap.size, 0, none⟩) HM2.out.lt).trans a0, (hu.cell (p := ⟨w.heap.size, 1, none⟩) HM2.out.lt).trans a1, (hu.cell (p := ⟨g, jp * 7 + 5, none⟩) hgl).trans h⟩)
  have hmw2 : w.heap.size < u2.heap.size := HM2.out.lt
  clear hYL hol hAk
  obtain ⟨t, ht⟩ : ∃ t, Y.n.kids.length = t := ⟨_, rfl⟩
  have HT := Lib.hid ht
  rw [ht] at HF2 hk4
  clear ht
  go_upto_region 6 with fail
  go_loopg [6, 7] t (fun gg s6 s7 wx => ∃ (k : Nat) (vl : Value), s7 = .int .i64 k ∧ s6 = vl ∧ gg = t - k ∧ k ≤ t ∧ Below u2.heap.size u2 wx ∧ OwnI wx u2.heap.size vl (keepQ (fun q => q == X.n.id) (Y.n.kids.take k)))
  case atStart => exact ⟨0, _, rfl, rfl, rfl, Nat.zero_le _, Below.refl _ _, OwnI.nil _ _⟩
  case round =>
    obtain ⟨k, vl, rfl, rfl, rfl, hk, hb, hown⟩ := hrel
    obtain ⟨L, hL⟩ : ∃ L, keepQ (fun q => q == X.n.id) (Y.n.kids.take k) = L := ⟨_, rfl⟩
    rw [hL] at hown
    have HL := Lib.hid hL; clear hL
    obtain ⟨A', c', rfl⟩ := hown.shape
    have HBX := Lib.hid hb; have HOW := Lib.hid hown
    have k0 : (0 : Int) ≤ k := by omega
    obtain ⟨f0, f1, f2⟩ := HF2.out wr hb
    have hwl := hb.size
    have hmwr : w.heap.size < wr.heap.size := by omega
    have hgwr : g < wr.heap.size := by omega
    clear hown
    by_cases hlt : k < t
    · have hlt' : (k : Int) < t := by omega
      have HKL : Hid (k < Y.n.kids.length) := Lib.hid (by rw [HT.out]; exact hlt)
      obtain ⟨b, off, hA, hbF, d0⟩ := int_at HKR.out HKL.out
      subst hA
      have d0 := (hb.cell (p := ⟨b, off + k, none⟩) hbF).trans d0
      obtain ⟨kk, hkk⟩ : ∃ z, Y.n.kids[k]'HKL.out = z := ⟨_, rfl⟩
      have HKK := Lib.hid hkk
      rw [hkk] at d0
      have HNX : Hid (keepQ (fun q => q == X.n.id) (Y.n.kids.take (k + 1)) = L ++ (if (!(kk == X.n.id)) = true then [kk] else [])) := Lib.hid (by
        unfold keepQ
        rw [filter_take HKL.out, ← HL.out, hkk]; rfl)
      have hll : L.length ≤ 4096 := by
        rw [← HL.out]
        have h1 : (keepQ (fun q => q == X.n.id) (Y.n.kids.take k)).length ≤ (Y.n.kids.take k).length := List.length_filter_le _ _
        rw [List.length_take] at h1
        omega
      clear hb hkk
      by_cases he : kk = X.n.id
      · subst he
        have q1 : (X.n.id != X.n.id) = false := by simp
        have HN2 : Hid (keepQ (fun q => q == X.n.id) (Y.n.kids.take (k + 1)) = L) := Lib.hid (by rw [HNX.out]; simp)
        go_wp2_with fail
        go_roundg (t - (k + 1))
        case measure => omega
        case rel => exact ⟨k + 1, _, by go_num, rfl, rfl, by omega, HBX.out, by rw [HN2.out]; exact HOW.out⟩
      · have q1 : (kk != X.n.id) = true := by simp; exact he
        have HN2 : Hid (keepQ (fun q => q == X.n.id) (Y.n.kids.take (k + 1)) = L ++ [kk]) := Lib.hid (by rw [HNX.out]; simp [he])
        have HOW3 := Lib.hid (HOW.out.alloc (.cells #[.int .i64 kk] 3))
        clear he
        go_wp2_with (at_builtin; refine wpList_pushI rfl (.tmp 43) (.tmp 53) rfl ?a1 HOW3.out kk wr.heap.size ?a2 ?a3 ?a4 ?a5 ?a6)
        case a1 => rfl
        case a2 => rfl
        case a3 => exact Blk.new _ _ _
        case a4 => omega
        case a5 => simp; omega
        case a6 =>
          intro A3 c3 w3 own3 hg3 _
          have HOW4 := Lib.hid own3
          have HB4 := Lib.hid ((HBX.out.alloc hwl _).grown hg3 (by simp; omega) (fun b e => (HOW.out.lt b e).1))
          have hll2 : (L ++ [kk]).length = L.length + 1 := by simp
          clear own3 hg3 d0 f0 f1 f2
          go_wp2_with fail
          go_roundg (t - (k + 1))
          case measure => omega
          case rel => exact ⟨k + 1, _, by go_num, rfl, rfl, by omega, HB4.out, by rw [HN2.out]; exact HOW4.out⟩
    · have hlt' : ¬ (k : Int) < t := by omega
      have HOF : Hid (OwnI wr base (.slice A' L.length c') (keepQ (fun q => q == X.n.id) Y.n.kids)) := Lib.hid (by
        have h := HL.out
        rw [List.take_of_length_le (by rw [HT.out]; omega)] at h
        rw [h]; exact HOW.out.weaken hbu2)
      have hgrb : u2.grownBy wr Y.k.ownBlock := ⟨hb.os, hb.tape, hb.output, hb.size, fun q hq _ => hb.block q hq⟩
      have HO7 := Lib.hid (HO2.out.setKids hjp HY.out (keepQ (fun q => q == X.n.id) Y.n.kids) (.slice A' L.length c') hgrb (by
        rcases HOW.out.2 with ⟨e, _⟩ | ⟨q, cap', cur, e, h2, _⟩
        · exact .inr (.inl (by rw [e]; rfl))
        · exact .inr (.inr ⟨q, by rw [e]; rfl, h2⟩)) HOF.out)
      have z5 : wr.frozen? ⟨g, jp * 7 + 5, none⟩ = false := by
        rw [World.frozen?_of_block (w := u2) (a := ⟨g, jp * 7 + 5, none⟩) (hb.block g hgl)]; exact HO2.out.frozen _
      have HB7 := Lib.hid ((HB2.out.below hb).set_ HOG (jp * 7 + 5) (.slice A' L.length c'))
      clear hb hgrb
      go_wp2
      go_end0
      exact ⟨rfl, _, HO7.out, by rw [List.map_set, HNS.out]; exact HEND.out, HB7.out⟩

set_option maxRecDepth 100000 in
set_option maxHeartbeats 4000000 in
theorem takeRoot_any (next : Int) (v : Value) (l : List LN) (w : World) (base : Nat) (O : Nat → Prop) (hOO : ∀ b, some b ∈ (v.ownBlock :: allBlocks l) → O b) (hO : OwnM w base v l) (hbw : base ≤ w.heap.size) (hS : SrtB (l.map LN.n)) (hl : l.length ≤ 1048576)
    (jn : Nat) (hjn : jn < l.length) (X : LN) (hX : l[jn] = X) (hp : X.n.parent = 0) :
    Calls Try.prog 102 #[.agg #[.int .i64 next, v], .int .i64 X.n.id] w fun e w' => e = .returned (.tuple #[]) ∧
      ∃ l', OwnM w' base v l' ∧ l'.map LN.n = unhangN (l.map LN.n) X.n.parent X.n.id ∧ KeepO O w w' := by
  obtain ⟨g, cap, rfl, hnc, hcm, hgb, hgw⟩ := own_some hO.row (by omega)
  have HOG : O g := hOO g (by show some g ∈ some g :: _; exact List.mem_cons_self ..)
  obtain ⟨ns, hns⟩ : ∃ ns, l.map LN.n = ns := ⟨_, rfl⟩
  have hlen : l.length = ns.length := by rw [← hns]; simp
  have hXn : ns[jn]? = some X.n := by rw [← hns]; simp [hjn, hX]
  rw [hns] at hS ⊢
  rw [hlen] at hO ⊢
  have hjn2 : jn < ns.length := by omega
  have hXg : ns[jn] = X.n := by rw [List.getElem?_eq_getElem hjn2] at hXn; injection hXn
  have hXi := hS.2 jn hjn2
  rw [hXg] at hXi
  have hatX : atI ns X.n.id = jn := by rw [← hXg]; exact atI_some hS.1 hjn2 rfl
  have HP := Lib.hid hp
  have HEND : Hid (unhangN ns X.n.parent X.n.id = ns) := Lib.hid (by rw [hp]; exact unhangN_zero hS)
  rw [HEND.out]
  have hXr : InR X.n.id := by unfold InR; omega
  have HS := Lib.hid hS; have HNS := Lib.hid hns; have HX := Lib.hid hX; have HO := Lib.hid hO
  have HATX := Lib.hid hatX
  rw [hlen] at hl
  unfold maxLen at hcm
  clear hS hns hX hO hXn hXg hatX hlen hp
  have hgm : g ≠ w.heap.size := by omega
  have HB0 := Lib.hid ((KeepO.refl O w).alloc (.cells #[.int .i64 next, .slice (some ⟨g, 0, none⟩) ns.length cap] 24))
  have HM0 := Lib.hid (Blk.new w 24 #[.int .i64 next, .slice (some ⟨g, 0, none⟩) ns.length cap])
  have HO0 := Lib.hid (HO.out.below ((Below.refl w.heap.size w).alloc (Nat.le_refl _) (.cells #[.int .i64 next, .slice (some ⟨g, 0, none⟩) ns.length cap] 24)))
  go_enter Try.func102, Try.ntmps102
  go_wp2_with fail
  obtain ⟨u0, hu0⟩ : ∃ u : World, w.alloc (.cells #[.int .i64 next, .slice (some ⟨g, 0, none⟩) ns.length cap] 24) = u := ⟨_, rfl⟩
  rw [hu0] at HB0 HM0 HO0
  (try rw [hu0])
  have hbu : base ≤ u0.heap.size := by rw [← hu0]; simp; omega
  clear hu0
  have hj0 : (0 : Int) ≤ jn := by omega
  have hj1 : (jn : Int) < ns.length := by omega
  have m0 := HM0.out.cell 0; have m1 := HM0.out.cell 1
  have hmlt := HM0.out.lt
  simp at m0 m1
  have c2 := HO0.out.cell (i := jn) (j := 2) hjn (by omega)
  rw [HX.out] at c2
  simp [LN.cells, nodeCellsA] at c2
  rw [HP.out] at c2
  have CP := Lib.hid (fun (d : Nat) (os : Array Obj) => Calls.regrown_of (w := u0) (d := d) (os := os) (by
    have ho := HO0.out.below (below_regrown u0 d os)
    have := at_any (some ⟨g, 0, none⟩) cap next X.n.id ns (Sort.grow (redrawn u0 d) os) (fun b => base ≤ b ∧ b < (Sort.grow (redrawn u0 d) os).heap.size) (fun b hb => hb.2) (by rw [← HNS.out]; exact ho.rowOf (fun b h1 h2 => ⟨h1, h2⟩)) HS.out.1 (by omega)
    rw [HATX.out] at this; exact this))
  have k0 := cell_regrown m0; have k1 := cell_regrown m1; have k3 := cell_regrown c2
  clear m0 m1
  refine wp_region_quiet_below (by kernel_rfl) (by kernel_rfl) ?_
  repeat (first | go_big_quiet_step (exact CP.out _ _) | quiet_step (exact CP.out _ _))
  refine wpQuiet_nil ?_
  intro _ hw'
  obtain ⟨⟨dq, osq⟩, hw''⟩ := hw'
  subst hw''
  have hbr := below_regrown u0 dq osq
  have HB1 := Lib.hid (HB0.out.below hbr)
  have HM1 := Lib.hid (HM0.out.below hbr hmlt)
  have HO1 := Lib.hid (HO0.out.below hbr)
  have hbu2 := Nat.le_trans hbu hbr.size
  clear k0 k1 k3 c2 CP hbr
  obtain ⟨u1, hu⟩ : ∃ z : World, Sort.grow (redrawn u0 dq) osq = z := ⟨_, rfl⟩
  rw [hu] at HB1 HM1 HO1 hbu2 ⊢
  clear hu hmlt hbu
  have hbu := hbu2
  clear hbu2
  have hp0 : ((0 : Int) == 0) = true := by decide
  go_wp2
  refine bodyPost_ret (results_none rfl _ _ _) rfl ?_
  exact ⟨rfl, _, HO1.out, HNS.out, HB1.out⟩

/-- either way -/
theorem take_any (next : Int) (v : Value) (l : List LN) (w : World) (base : Nat) (O : Nat → Prop) (hOO : ∀ b, some b ∈ (v.ownBlock :: allBlocks l) → O b) (hO : OwnM w base v l) (hbw : base ≤ w.heap.size) (hS : SrtB (l.map LN.n)) (hl : l.length ≤ 1048576) (hk4 : ∀ y ∈ l.map LN.n, y.kids.length ≤ 4096)
    (x : ANode) (hx : x ∈ l.map LN.n) (hp : x.parent = 0 ∨ ∃ y ∈ l.map LN.n, x.parent = y.id) :
    Calls Try.prog 102 #[.agg #[.int .i64 next, v], .int .i64 x.id] w fun e w' => e = .returned (.tuple #[]) ∧
      ∃ l', OwnM w' base v l' ∧ l'.map LN.n = unhangN (l.map LN.n) x.parent x.id ∧ KeepO O w w' := by
  obtain ⟨X, hX, rfl⟩ := List.mem_map.1 hx
  obtain ⟨jn, hjn, rfl⟩ := List.getElem_of_mem hX
  rcases hp with hp | ⟨y, hy, hp⟩
  · exact takeRoot_any next v l w base O hOO hO hbw hS hl jn hjn _ rfl hp
  · obtain ⟨Y, hY, rfl⟩ := List.mem_map.1 hy
    obtain ⟨jp, hjp, rfl⟩ := List.getElem_of_mem hY
    have := takeKid_any next v l w base O hOO hO hbw hS hl jn hjn _ rfl jp hjp _ rfl hp (hk4 _ (List.mem_map.2 ⟨_, hY, rfl⟩))
    exact this
end Go.Proofs.Ytmafhaadcjgcbaa
end
section
/- the document's Move -/
namespace Go.Proofs.Ytmafhaadcjgcbaa
open Go Go.RowKit

theorem rootE_size {role : ByteArray} {a : Int} (h : rootE role a = 0) : role.size = 0 := by
  unfold rootE at h
  split at h
  · exact ‹_ ∧ _›.1
  · cases h

set_option maxRecDepth 100000 in
set_option maxHeartbeats 8000000 in
theorem moveR_any (A : Option Addr) (c : Nat) (m : AModel) (w : World) (F : Nat → Prop) (hF : ∀ b, F b → b < w.heap.size) (h : RowOf 7 ENode w F A m.nodes) (hz : ∀ x ∈ m.nodes, NodeOK x) (hz' : ∀ x ∈ m.nodes, LensOK x) (hl : m.nodes.length ≤ 9223372036854775807) (id : Int) (hid : InR id) (p : Int) (hpi : InR p) (role : ByteArray) (hns : role.size ≤ 9223372036854775807) (a : Int) (ha : InR a) :
    Calls Try.prog 48 #[.agg #[.int .i64 m.next, .slice A m.nodes.length c], .int .i64 id, .int .i64 p, .string role, .int .i64 a] w fun e w' => (∃ v, e = .returned v ∧ ResAs w' w.heap.size m.next (moveE m id p role a) (moveL m id p role a) v) ∧ Below w.heap.size w w' := by
  obtain ⟨EE, hEE⟩ : ∃ EE, moveE m id p role a = EE := ⟨_, rfl⟩
  obtain ⟨LL, hLL⟩ : ∃ LL, moveL m id p role a = LL := ⟨_, rfl⟩
  rw [hEE, hLL]
  have HEE := Lib.hid hEE; have HLL := Lib.hid hLL
  clear hEE hLL
  have HH := Lib.hid h; have HZ := Lib.hid hz; have HZ' := Lib.hid hz'; have HLB := Lib.hid hl
  obtain ⟨n, hn⟩ : ∃ n, m.nodes.length = n := ⟨_, rfl⟩
  have HN := Lib.hid hn
  rw [hn] at hl ⊢
  clear h hz hz' hn
  obtain ⟨u0, hu0⟩ : ∃ u : World, (w.alloc (.cells #[.int .i64 m.next, .slice A n c] 24)).alloc (.cells #[.int .i64 0, .slice none 0 0] 24) = u := ⟨_, rfl⟩
  have HM : Hid (Blk u0 w.heap.size 24 #[.int .i64 m.next, .slice A n c]) := Lib.hid (by rw [← hu0]; exact (Blk.new w _ _).alloc _)
  have HR : Hid (Blk u0 (w.heap.size + 1) 24 #[.int .i64 0, .slice none 0 0]) := Lib.hid (by rw [← hu0]; exact Blk.new' (by simp))
  have hb : Below w.heap.size w u0 := by rw [← hu0]; exact ((Below.refl w.heap.size w).alloc (Nat.le_refl _) _).alloc (by simp) _
  have HU0 := Lib.hid hu0
  clear hu0
  have HB_w : Hid (Below w.heap.size w u0) := Lib.hid hb
  clear hb
  have HC := Lib.hid (right_any A c m u0 F (fun b hb => Nat.lt_of_lt_of_le (hF b hb) HB_w.out.size) (HH.out.keep ENode.stays (Keep.below HB_w.out hF) (fun _ h => h)) (fun x hx => (HZ.out x hx).1) HLB.out)
  rw [HN.out] at HC
  have HCC : Hid (Calls Try.prog 55 #[.agg #[.int .i64 m.next, .slice A n c]] u0 fun e w' => e = .returned (.bool (rightM m)) ∧ Below u0.heap.size u0 w') := HC
  clear HC
  by_cases hc : CheckM m
  rotate_left 1
  · have HC2 := Lib.hid (res_is (rightM_is.2 hc) HCC.out)
    have E := Lib.hid (show EE = 29 from HEE.out.symm.trans (moveE_check hc))
    clear hc HCC
    go_enter Try.func48, Try.ntmps48
    go_wp2_with fail
    (try rw [HU0.out])
    refine HC2.out.mono ?_
    rintro _ u1 ⟨rfl, hb⟩
    replace HB_w : Hid (Below w.heap.size w u1) := Lib.hid (HB_w.out.trans (hb.mono HB_w.out.size))
    replace HM := Lib.hid (HM.out.below hb HM.out.lt)
    replace HR := Lib.hid (HR.out.below hb HR.out.lt)
    clear hb HU0 HC2
    have t0 := HR.out.frozen 0; have t1 := HR.out.frozen 1
    have r0 := HR.out.cell 0; have r1 := HR.out.cell 1
    have hrlt := HR.out.lt
    simp at r0 r1
    go_wp2_with fail
    have hyS := (HR.out.set_ 0 (.int .i64 0)).set_ 1 (.slice none 0 0)
    have f0 := hyS.cell 0; have f1 := hyS.cell 1
    simp at f0 f1
    have HBW := Lib.hid ((HB_w.out.setCell (p := ⟨w.heap.size + 1, 0, none⟩) (by show w.heap.size ≤ w.heap.size + 1; omega) (.int .i64 0)).setCell (p := ⟨w.heap.size + 1, 1, none⟩) (by show w.heap.size ≤ w.heap.size + 1; omega) (.slice none 0 0))
    exact bodyPost_ret (v := .tuple #[.agg #[.int .i64 0, .slice none 0 0], .int .i64 (29)]) (by simp [results, Try.results48, go_sem, f0, f1]) rfl ⟨⟨_, rfl, Or.inl ⟨by rw [E.out]; decide, by rw [E.out]⟩⟩, HBW.out⟩
  have HC2 := Lib.hid (res_is (rightM_is.1 hc) HCC.out)
  have HK4 := Lib.hid hc.kids4
  have HCM := Lib.hid hc
  have HS := Lib.hid hc.1.srtB
  have hl4 : n ≤ 4096 := by rw [← HN.out]; exact hc.1.1.2.2
  have HRK : Hid (∀ x ∈ m.nodes, ∀ k ∈ x.kids, InR k) := Lib.hid (fun x hx => (HZ.out x hx).2.2)
  have HRPP : Hid (∀ x ∈ m.nodes, InR x.parent) := Lib.hid (fun x hx => (HZ.out x hx).2.1)
  clear hc HCC HLB
  rcases atI_cases m.nodes id with ⟨j, hj, hj1, hj2⟩ | ⟨hj1, hj2⟩
  rotate_left 1
  · have HAT := Lib.hid hj2
    have HLT : Hid (atI m.nodes id < 0) := Lib.hid (by rw [hj2]; omega)
    clear hj1 hj2
    by_cases hp0 : p = 0
    · subst hp0
      have g1 : ((0 : Int) != 0) = false := by decide
      go_enter Try.func48, Try.ntmps48
      go_wp2_with fail
      (try rw [HU0.out])
      refine HC2.out.mono ?_
      rintro _ u1 ⟨rfl, hb⟩
      replace HB_w : Hid (Below w.heap.size w u1) := Lib.hid (HB_w.out.trans (hb.mono HB_w.out.size))
      replace HM := Lib.hid (HM.out.below hb HM.out.lt)
      replace HR := Lib.hid (HR.out.below hb HR.out.lt)
      clear hb HU0 HC2
      have HMc0 := HM.out.cell 0
      have HMc1 := HM.out.cell 1
      have HMlt := HM.out.lt
      simp at HMc0 HMc1
      have HPL := Lib.hid (at_any A c m.next id m.nodes u1 F (fun b hb => Nat.lt_of_lt_of_le (hF b hb) HB_w.out.size) (HH.out.keep ENode.stays (Keep.below HB_w.out hF) (fun _ h => h)) HS.out.1 (by rw [HN.out]; omega))
      rw [HAT.out, HN.out] at HPL
      go_wp2_with fail
      refine (HPL.out).mono ?_
      rintro _ u2 ⟨rfl, hb⟩
      replace HB_w : Hid (Below w.heap.size w u2) := Lib.hid (HB_w.out.trans (hb.mono HB_w.out.size))
      replace HM := Lib.hid (HM.out.below hb HM.out.lt)
      replace HR := Lib.hid (HR.out.below hb HR.out.lt)
      clear hb
      clear HPL HMc0 HMc1 HMlt
      have g4 : decide ((-1 : Int) < 0) = true := by decide
      have E := Lib.hid (show EE = 20 from HEE.out.symm.trans (moveE_node HCM.out (fun h => absurd rfl h) (.inl HLT.out)))
      have t0 := HR.out.frozen 0; have t1 := HR.out.frozen 1
      have r0 := HR.out.cell 0; have r1 := HR.out.cell 1
      have hrlt := HR.out.lt
      simp at r0 r1
      go_wp2_with fail
      have hyS := (HR.out.set_ 0 (.int .i64 0)).set_ 1 (.slice none 0 0)
      have f0 := hyS.cell 0; have f1 := hyS.cell 1
      simp at f0 f1
      have HBW := Lib.hid ((HB_w.out.setCell (p := ⟨w.heap.size + 1, 0, none⟩) (by show w.heap.size ≤ w.heap.size + 1; omega) (.int .i64 0)).setCell (p := ⟨w.heap.size + 1, 1, none⟩) (by show w.heap.size ≤ w.heap.size + 1; omega) (.slice none 0 0))
      exact bodyPost_ret (v := .tuple #[.agg #[.int .i64 0, .slice none 0 0], .int .i64 (20)]) (by simp [results, Try.results48, go_sem, f0, f1]) rfl ⟨⟨_, rfl, Or.inl ⟨by rw [E.out]; decide, by rw [E.out]⟩⟩, HBW.out⟩
    · have g1 : (p != 0) = true := by simp; exact hp0
      rcases hwc : wordA role with _ | _
      · have E := Lib.hid (show EE = 2 from HEE.out.symm.trans (moveE_word HCM.out hp0 hwc))
        have HW := Lib.hid hwc
        clear hwc
        go_enter Try.func48, Try.ntmps48
        go_wp2_with fail
        (try rw [HU0.out])
        refine HC2.out.mono ?_
        rintro _ u1 ⟨rfl, hb⟩
        replace HB_w : Hid (Below w.heap.size w u1) := Lib.hid (HB_w.out.trans (hb.mono HB_w.out.size))
        replace HM := Lib.hid (HM.out.below hb HM.out.lt)
        replace HR := Lib.hid (HR.out.below hb HR.out.lt)
        clear hb HU0 HC2
        go_wp2_with fail
        refine (rword_is hns HW.out u1).mono ?_
        rintro _ u2 ⟨rfl, hb⟩
        replace HB_w : Hid (Below w.heap.size w u2) := Lib.hid (HB_w.out.trans (hb.mono HB_w.out.size))
        replace HM := Lib.hid (HM.out.below hb HM.out.lt)
        replace HR := Lib.hid (HR.out.below hb HR.out.lt)
        clear hb
        have t0 := HR.out.frozen 0; have t1 := HR.out.frozen 1
        have r0 := HR.out.cell 0; have r1 := HR.out.cell 1
        have hrlt := HR.out.lt
        simp at r0 r1
        go_wp2_with fail
        have hyS := (HR.out.set_ 0 (.int .i64 0)).set_ 1 (.slice none 0 0)
        have f0 := hyS.cell 0; have f1 := hyS.cell 1
        simp at f0 f1
        have HBW := Lib.hid ((HB_w.out.setCell (p := ⟨w.heap.size + 1, 0, none⟩) (by show w.heap.size ≤ w.heap.size + 1; omega) (.int .i64 0)).setCell (p := ⟨w.heap.size + 1, 1, none⟩) (by show w.heap.size ≤ w.heap.size + 1; omega) (.slice none 0 0))
        exact bodyPost_ret (v := .tuple #[.agg #[.int .i64 0, .slice none 0 0], .int .i64 (2)]) (by simp [results, Try.results48, go_sem, f0, f1]) rfl ⟨⟨_, rfl, Or.inl ⟨by rw [E.out]; decide, by rw [E.out]⟩⟩, HBW.out⟩
      · have HW := Lib.hid hwc
        clear hwc
        go_enter Try.func48, Try.ntmps48
        go_wp2_with fail
        (try rw [HU0.out])
        refine HC2.out.mono ?_
        rintro _ u1 ⟨rfl, hb⟩
        replace HB_w : Hid (Below w.heap.size w u1) := Lib.hid (HB_w.out.trans (hb.mono HB_w.out.size))
        replace HM := Lib.hid (HM.out.below hb HM.out.lt)
        replace HR := Lib.hid (HR.out.below hb HR.out.lt)
        clear hb HU0 HC2
        go_wp2_with fail
        refine (rword_is hns HW.out u1).mono ?_
        rintro _ u2 ⟨rfl, hb⟩
        replace HB_w : Hid (Below w.heap.size w u2) := Lib.hid (HB_w.out.trans (hb.mono HB_w.out.size))
        replace HM := Lib.hid (HM.out.below hb HM.out.lt)
        replace HR := Lib.hid (HR.out.below hb HR.out.lt)
        clear hb
        have HMc0 := HM.out.cell 0
        have HMc1 := HM.out.cell 1
        have HMlt := HM.out.lt
        simp at HMc0 HMc1
        have HPL := Lib.hid (at_any A c m.next id m.nodes u2 F (fun b hb => Nat.lt_of_lt_of_le (hF b hb) HB_w.out.size) (HH.out.keep ENode.stays (Keep.below HB_w.out hF) (fun _ h => h)) HS.out.1 (by rw [HN.out]; omega))
        rw [HAT.out, HN.out] at HPL
        go_wp2_with fail
        refine (HPL.out).mono ?_
        rintro _ u3 ⟨rfl, hb⟩
        replace HB_w : Hid (Below w.heap.size w u3) := Lib.hid (HB_w.out.trans (hb.mono HB_w.out.size))
        replace HM := Lib.hid (HM.out.below hb HM.out.lt)
        replace HR := Lib.hid (HR.out.below hb HR.out.lt)
        clear hb
        clear HPL HMc0 HMc1 HMlt
        have g4 : decide ((-1 : Int) < 0) = true := by decide
        have E := Lib.hid (show EE = 20 from HEE.out.symm.trans (moveE_node HCM.out (fun _ => HW.out) (.inl HLT.out)))
        have t0 := HR.out.frozen 0; have t1 := HR.out.frozen 1
        have r0 := HR.out.cell 0; have r1 := HR.out.cell 1
        have hrlt := HR.out.lt
        simp at r0 r1
        go_wp2_with fail
        have hyS := (HR.out.set_ 0 (.int .i64 0)).set_ 1 (.slice none 0 0)
        have f0 := hyS.cell 0; have f1 := hyS.cell 1
        simp at f0 f1
        have HBW := Lib.hid ((HB_w.out.setCell (p := ⟨w.heap.size + 1, 0, none⟩) (by show w.heap.size ≤ w.heap.size + 1; omega) (.int .i64 0)).setCell (p := ⟨w.heap.size + 1, 1, none⟩) (by show w.heap.size ≤ w.heap.size + 1; omega) (.slice none 0 0))
        exact bodyPost_ret (v := .tuple #[.agg #[.int .i64 0, .slice none 0 0], .int .i64 (20)]) (by simp [results, Try.results48, go_sem, f0, f1]) rfl ⟨⟨_, rfl, Or.inl ⟨by rw [E.out]; decide, by rw [E.out]⟩⟩, HBW.out⟩
  have HAT := Lib.hid hj2
  have HLT : Hid (¬ atI m.nodes id < 0) := Lib.hid (by rw [hj2]; omega)
  have g4 : decide ((j : Int) < 0) = false := decide_eq_false (by omega)
  obtain ⟨x, hx⟩ : ∃ x, m.nodes[j] = x := ⟨_, rfl⟩
  have HX : Hid (x ∈ m.nodes ∧ x.id = id) := Lib.hid ⟨by rw [← hx]; exact List.getElem_mem hj, by rw [← hx]; exact hj1⟩
  have HXO : Hid (nodeOf m id = x) := Lib.hid (by rw [← HX.out.2]; exact HCM.out.tree.nodeOf HX.out.1)
  clear hj1 hj2 hx
  by_cases hp0 : p = 0
  · subst hp0
    have HWD : Hid ((0 : Int) ≠ 0 → wordA role = true) := Lib.hid (fun h => absurd rfl h)
    have HNN : Hid (¬ (atI m.nodes id < 0 ∨ ((0 : Int) ≠ 0 ∧ atI m.nodes 0 < 0))) := Lib.hid (by rintro (h | h); exact HLT.out h; exact h.1 rfl)
    go_enter Try.func48, Try.ntmps48
    go_wp2_with fail
    (try rw [HU0.out])
    refine HC2.out.mono ?_
    rintro _ u1 ⟨rfl, hb⟩
    replace HB_w : Hid (Below w.heap.size w u1) := Lib.hid (HB_w.out.trans (hb.mono HB_w.out.size))
    replace HM := Lib.hid (HM.out.below hb HM.out.lt)
    replace HR := Lib.hid (HR.out.below hb HR.out.lt)
    clear hb HU0 HC2
    have g1 : ((0 : Int) != 0) = false := by decide
    have HMc0 := HM.out.cell 0
    have HMc1 := HM.out.cell 1
    have HMlt := HM.out.lt
    simp at HMc0 HMc1
    have HPL := Lib.hid (at_any A c m.next id m.nodes u1 F (fun b hb => Nat.lt_of_lt_of_le (hF b hb) HB_w.out.size) (HH.out.keep ENode.stays (Keep.below HB_w.out hF) (fun _ h => h)) HS.out.1 (by rw [HN.out]; omega))
    rw [HAT.out, HN.out] at HPL
    go_wp2_with fail
    refine (HPL.out).mono ?_
    rintro _ u2 ⟨rfl, hb⟩
    replace HB_w : Hid (Below w.heap.size w u2) := Lib.hid (HB_w.out.trans (hb.mono HB_w.out.size))
    replace HM := Lib.hid (HM.out.below hb HM.out.lt)
    replace HR := Lib.hid (HR.out.below hb HR.out.lt)
    clear hb
    clear HPL HMc0 HMc1 HMlt
    have hne : (0 : Int) ≠ id := by have := id_pos HCM.out.1.2 HX.out.1; rw [HX.out.2] at this; omega
    have g0 : ((0 : Int) == id) = false := beq_eq_false_iff_ne.2 hne
    have g1 : ((0 : Int) != 0) = false := by decide
    have hno0 : (belowL m id).contains 0 = false := by
      cases hcc : (belowL m id).contains 0 with
      | false => rfl
      | true =>
        have h0 := List.contains_iff_mem.1 hcc
        rw [← HX.out.2] at h0
        obtain ⟨y, hy, e⟩ := HCM.out.tree.below_node x HX.out.1 0 h0
        have := id_pos HCM.out.1.2 hy
        omega
    have HNL : Hid (¬ ((0 : Int) = id ∨ (0 : Int) ∈ belowL m id)) := Lib.hid (by
      rintro (h | h)
      · exact hne h
      · rw [List.contains_iff_mem.2 h] at hno0; cases hno0)
    have HMc0 := HM.out.cell 0
    have HMc1 := HM.out.cell 1
    have HMlt := HM.out.lt
    simp at HMc0 HMc1
    have HUD := Lib.hid (down_any A c m u2 F (fun b hb => Nat.lt_of_lt_of_le (hF b hb) HB_w.out.size) (HH.out.keep ENode.stays (Keep.below HB_w.out hF) (fun _ h => h)) HCM.out.tree HS.out HK4.out (by rw [HN.out]; omega) x HX.out.1)
    rw [HN.out, HX.out.2] at HUD
    go_wp2_with fail
    refine HUD.out.mono ?_
    rintro _ ux ⟨vl, rfl, hown, hb⟩
    replace HB_w : Hid (Below w.heap.size w ux) := Lib.hid (HB_w.out.trans (hb.mono HB_w.out.size))
    replace HM := Lib.hid (HM.out.below hb HM.out.lt)
    replace HR := Lib.hid (HR.out.below hb HR.out.lt)
    clear hb HUD HMc0 HMc1 HMlt
    have hlb : (belowL m id).length ≤ 4096 := by have := HCM.out.tree.below_len HX.out.1; rw [HX.out.2, HN.out] at this; omega
    obtain ⟨Al, cl, rfl⟩ := hown.shape
    have HCT := Lib.hid (has_any Al cl (belowL m id) (0) ux (fun b => b < ux.heap.size) (by
      obtain ⟨A', c', e, _, _, h3⟩ := hown.isRow (F := fun b => b < ux.heap.size) (fun b _ h => h)
      injection e with e1; subst e1; exact h3) (by omega))
    rw [show decide (0 ∈ belowL m id) = _ from (List.contains_eq_mem _ _).symm.trans hno0] at HCT
    clear hown hlb
    go_wp2_with fail
    refine HCT.out.mono ?_
    rintro _ uy ⟨rfl, rfl⟩
    clear HCT hno0
    have HMc0 := HM.out.cell 0
    have HMc1 := HM.out.cell 1
    have HMlt := HM.out.lt
    simp at HMc0 HMc1
    have HHT := Lib.hid (high_any A c m ux F (fun b hb => Nat.lt_of_lt_of_le (hF b hb) HB_w.out.size) (HH.out.keep ENode.stays (Keep.below HB_w.out hF) (fun _ h => h)) HCM.out HRPP.out HRK.out HK4.out x HX.out.1)
    rw [HN.out, HX.out.2] at HHT
    go_wp2_with fail
    refine HHT.out.mono ?_
    rintro _ uh ⟨rfl, hb⟩
    replace HB_w : Hid (Below w.heap.size w uh) := Lib.hid (HB_w.out.trans (hb.mono HB_w.out.size))
    replace HM := Lib.hid (HM.out.below hb HM.out.lt)
    replace HR := Lib.hid (HR.out.below hb HR.out.lt)
    clear hb HHT HMc0 HMc1 HMlt
    obtain ⟨hg, hhg⟩ : ∃ z, heightN m id = z := ⟨_, rfl⟩
    have HHG := Lib.hid hhg
    have hg64 : 1 ≤ hg ∧ hg ≤ 64 := by have := height_le HCM.out HX.out.1; rw [HX.out.2, hhg] at this; exact this
    rw [hhg]
    clear hhg
    have HMc0 := HM.out.cell 0
    have HMc1 := HM.out.cell 1
    have HMlt := HM.out.lt
    simp at HMc0 HMc1
    have HTW := Lib.hid (twinR_any A c m uh F (fun b hb => Nat.lt_of_lt_of_le (hF b hb) HB_w.out.size) (HH.out.keep ENode.stays (Keep.below HB_w.out hF) (fun _ h => h)) HZ'.out (by rw [HN.out]; omega))
    rw [HN.out] at HTW
    go_wp2_with fail
    refine HTW.out.mono ?_
    rintro _ ut ⟨vt, rfl, l, hown, hlm, hb⟩
    have HBASE : Hid (w.heap.size + 1 < uh.heap.size) := Lib.hid HR.out.lt
    replace HB_w : Hid (Below w.heap.size w ut) := Lib.hid (HB_w.out.trans (hb.mono HB_w.out.size))
    replace HM := Lib.hid (HM.out.below hb HM.out.lt)
    replace HR := Lib.hid (HR.out.below hb HR.out.lt)
    have hll : l.length = n := by rw [← HN.out, ← hlm, List.length_map]
    obtain ⟨At, ct, rfl⟩ := own_shape hown.row
    rw [hll] at hown ⊢
    have HO := Lib.hid hown; have HLM := Lib.hid hlm; have HBT : Hid (uh.heap.size ≤ ut.heap.size) := Lib.hid hb.size
    clear hb hown hlm HTW HMc0 HMc1 HMlt
    obtain ⟨u1, hu⟩ : ∃ u : World, ut.alloc (.cells #[.int .i64 m.next, .slice At n ct] 24) = u := ⟨_, rfl⟩
    have HBU : Below ut.heap.size ut u1 := by rw [← hu]; exact (Below.refl _ _).alloc (Nat.le_refl _) _
    have HP : Hid (Blk u1 ut.heap.size 24 #[.int .i64 m.next, .slice At n ct]) := Lib.hid (by rw [← hu]; exact Blk.new _ _ _)
    have HUE := Lib.hid hu
    clear hu
    replace HB_w : Hid (Below w.heap.size w u1) := Lib.hid (HB_w.out.trans (HBU.mono HB_w.out.size))
    replace HM := Lib.hid (HM.out.below HBU HM.out.lt)
    replace HR := Lib.hid (HR.out.below HBU HR.out.lt)
    clear HBU
    replace HO := Lib.hid (HO.out.below (show Below ut.heap.size ut u1 from by rw [← HUE.out]; exact (Below.refl ut.heap.size ut).alloc (Nat.le_refl _) _))
    have HPB : Hid (uh.heap.size ≤ ut.heap.size) := HBT
    go_upto_region 11 with fail
    (try rw [HUE.out])
    (try clear HUE)
    have HPc0 := HP.out.cell 0
    have HPc1 := HP.out.cell 1
    have HPlt := HP.out.lt
    simp at HPc0 HPc1
    have HUN := Lib.hid (take_any m.next (.slice At n ct) l u1 uh.heap.size (OB uh.heap.size ut.heap.size) (HO.out.ob HP.out) HO.out (by have := HP.out.lt; have := HPB.out; omega) (by rw [HLM.out]; exact HS.out) (by rw [HO.out.len_map HLM.out, HN.out]; omega) (by rw [HLM.out]; exact check_kids4 HCM.out) x (by rw [HLM.out]; exact HX.out.1) (by rw [HLM.out]; exact check_parent HCM.out HX.out.1))
    rw [HLM.out, HX.out.2] at HUN
    go_wp2_with fail
    refine HUN.out.mono ?_
    rintro _ un ⟨rfl, l1, hown, hlm, hk⟩
    have HO1 := Lib.hid hown
    have HL1 : Hid (l1.map LN.n = (mu m x).nodes) := Lib.hid (by rw [hlm]; show _ = unhangN m.nodes x.parent x.id; rw [HX.out.2])
    have hno1 : ¬ OB uh.heap.size ut.heap.size w.heap.size := fun h => by have := h.1; have := HBASE.out; omega
    have hno2 : ¬ OB uh.heap.size ut.heap.size (w.heap.size + 1) := fun h => by have := h.1; have := HBASE.out; omega
    have hno3 : ¬ OB uh.heap.size ut.heap.size ut.heap.size := fun h => h.2 rfl
    replace HM := Lib.hid (hk.blk HM.out hno1)
    replace HR := Lib.hid (hk.blk HR.out hno2)
    replace HP := Lib.hid (hk.blk HP.out hno3)
    replace HB_w : Hid (Below w.heap.size w un) := Lib.hid (HB_w.out.trans (hk.toBelow HB_w.out.size (fun b h => by have := h.1; have := HBASE.out; omega)))
    clear hown hlm hk HUN HPc0 HPc1 HPlt
    obtain ⟨ns1, hns1⟩ : ∃ z, mu m x = z := ⟨_, rfl⟩
    have HMU := Lib.hid hns1
    have HMN : Hid (ns1.nodes.length = n) := Lib.hid (by rw [← hns1, mu_len, HN.out])
    have HMX : Hid (ns1.next = m.next) := Lib.hid (by rw [← hns1]; rfl)
    have HS1 : Hid (SrtB ns1.nodes) := Lib.hid (by rw [← hns1]; exact mu_srt HCM.out)
    have HID1 : Hid (∀ i, IdAt ns1 i) := Lib.hid (by rw [← hns1]; exact mu_ids HCM.out)
    have HFM1 : Hid (Fam ns1) := Lib.hid (by rw [← hns1]; exact mu_fam HCM.out)
    have HCL1 : Hid (Closed ns1.nodes) := Lib.hid (by rw [← hns1]; exact mu_closed HCM.out)
    have HNK1 : Hid (∀ y ∈ ns1.nodes, x.id ∉ y.kids) := Lib.hid (by rw [← hns1]; exact mu_nokid HCM.out HX.out.1)
    have HK41 : Hid (∀ y ∈ ns1.nodes, y.kids.length ≤ 4096) := Lib.hid (by rw [← hns1]; exact mu_kids4 HCM.out)
    have HRK1 : Hid (∀ y ∈ ns1.nodes, ∀ k ∈ y.kids, InR k) := Lib.hid (by rw [← hns1]; exact mu_kidsR HRK.out)
    have HRP1 : Hid (∀ y ∈ ns1.nodes, InR y.parent) := Lib.hid (by rw [← hns1]; exact mu_parR HRPP.out)
    have HXN : Hid (∃ x1 ∈ ns1.nodes, x1.id = x.id) := Lib.hid (by rw [← hns1]; obtain ⟨y, hy, e, _⟩ := mu_node (x := x) HX.out.1; exact ⟨y, hy, e⟩)
    rw [hns1] at HL1
    have HROW : Hid (RowOf 7 ENode un (fun b => uh.heap.size ≤ b ∧ b < un.heap.size) At ns1.nodes) := Lib.hid (by rw [← HL1.out]; exact HO1.out.rowOf (fun b h1 h2 => ⟨h1, h2⟩))
    have HPc0 := HP.out.cell 0
    have HPc1 := HP.out.cell 1
    have HPlt := HP.out.lt
    simp at HPc0 HPc1
    obtain ⟨EG, hEG⟩ : ∃ z, rootE role a = z := ⟨_, rfl⟩
    have E : Hid (EE = EG) := Lib.hid (by
      rw [← HEE.out, moveE_goal HCM.out HWD.out HNN.out HNL.out, goalE_root, hEG])
    have HEG := Lib.hid hEG
    have HGO := Lib.hid (mayRoot_any m.next At n ct un role a hg)
    rw [hEG] at HGO
    clear hns1 hEG
    go_wp2_with fail
    refine HGO.out.mono ?_
    rintro _ ug ⟨rfl, hb⟩
    replace HO1 := Lib.hid (HO1.out.below hb)
    have hbug := hb.size
    replace HB_w : Hid (Below w.heap.size w ug) := Lib.hid (HB_w.out.trans (hb.mono HB_w.out.size))
    replace HM := Lib.hid (HM.out.below hb HM.out.lt)
    replace HR := Lib.hid (HR.out.below hb HR.out.lt)
    replace HP := Lib.hid (HP.out.below hb HP.out.lt)
    clear hb HGO HPc0 HPc1 HPlt HROW
    by_cases hEG0 : EG = 0
    rotate_left 1
    · have hEne : EG ≠ 0 := hEG0
      have hEG1 : (EG != 0) = true := by simp; exact hEG0
      clear hEG0
      have t0 := HR.out.frozen 0; have t1 := HR.out.frozen 1
      have r0 := HR.out.cell 0; have r1 := HR.out.cell 1
      have hrlt := HR.out.lt
      simp at r0 r1
      go_wp2_with fail
      have hyS := (HR.out.set_ 0 (.int .i64 0)).set_ 1 (.slice none 0 0)
      have f0 := hyS.cell 0; have f1 := hyS.cell 1
      simp at f0 f1
      have HBW := Lib.hid ((HB_w.out.setCell (p := ⟨w.heap.size + 1, 0, none⟩) (by show w.heap.size ≤ w.heap.size + 1; omega) (.int .i64 0)).setCell (p := ⟨w.heap.size + 1, 1, none⟩) (by show w.heap.size ≤ w.heap.size + 1; omega) (.slice none 0 0))
      exact bodyPost_ret (v := .tuple #[.agg #[.int .i64 0, .slice none 0 0], .int .i64 (EG)]) (by simp [results, Try.results48, go_sem, f0, f1]) rfl ⟨⟨_, rfl, Or.inl ⟨by rw [E.out]; exact hEne, by rw [E.out]⟩⟩, HBW.out⟩
    subst hEG0
    obtain ⟨x1, hx1, hx1i⟩ := HXN.out
    obtain ⟨ii, hii⟩ : ∃ z, iOf ns1 0 role a = z := ⟨_, rfl⟩
    have HPA : Hid (PlaceAt m.next ns1.nodes x1.id 0 role a ii) := Lib.hid (by
      rw [← hii, ← HMX.out]
      exact place_of (id := x1.id) (p := 0) HFM1.out HK41.out (by rw [hx1i, HX.out.2]; exact hne) (.inl rfl) (d := 0) (high := hg) ((goalE_root _ _ _ _ _).trans HEG.out))
    have HHA := Lib.hid (put_any m.next (.slice At n ct) l1 ug uh.heap.size (OB uh.heap.size ut.heap.size) (HO1.out.ob HP.out) HO1.out (by have := HP.out.lt; have := HPB.out; omega) (by rw [HL1.out]; exact HS1.out) (by rw [HL1.out]; exact HRK1.out) (by rw [HO1.out.len_map HL1.out, HMN.out]; omega) (by rw [HL1.out]; exact HCL1.out) x1 (by rw [HL1.out]; exact hx1) 0 role a ha ii (by rw [HL1.out]; exact HPA.out) (fun _ => rootE_size HEG.out))
    rw [HL1.out, hx1i, HX.out.2] at HHA
    have HII := Lib.hid hii
    clear hii hx1 hx1i HPA hne
    have HPc0 := HP.out.cell 0
    have HPc1 := HP.out.cell 1
    have HPlt := HP.out.lt
    simp at HPc0 HPc1
    have q0 : ((0 : Int) != 0) = false := by decide
    go_wp2_with fail
    refine HHA.out.mono ?_
    rintro _ uz ⟨rfl, l2, hown, hlm, hk⟩
    have hno2 : ¬ OB uh.heap.size ut.heap.size (w.heap.size + 1) := fun h => by have := h.1; have := HBASE.out; omega
    have hno3 : ¬ OB uh.heap.size ut.heap.size ut.heap.size := fun h => h.2 rfl
    replace HR := Lib.hid (hk.blk HR.out hno2)
    replace HP := Lib.hid (hk.blk HP.out hno3)
    replace HB_w : Hid (Below w.heap.size w uz) := Lib.hid (HB_w.out.trans (hk.toBelow HB_w.out.size (fun b h => by have := h.1; have := HBASE.out; omega)))
    have HFIN : Hid (l2.map LN.n = LL) := Lib.hid (by
      rw [hlm, ← HLL.out]
      unfold moveL
      rw [HXO.out, HMU.out, HII.out])
    have HO2 := Lib.hid hown
    clear hown hlm hk HHA HPc0 HPc1 HPlt HM
    have p0 := HP.out.cell 0; have p1 := HP.out.cell 1
    have hplt := HP.out.lt
    simp at p0 p1
    have t0 := HR.out.frozen 0; have t1 := HR.out.frozen 1
    have r0 := HR.out.cell 0; have r1 := HR.out.cell 1
    have hrlt := HR.out.lt
    simp at r0 r1
    go_wp2_with fail
    have hyS := (HR.out.set_ 0 (.int .i64 m.next)).set_ 1 (.slice At n ct)
    have f0 := hyS.cell 0; have f1 := hyS.cell 1
    simp at f0 f1
    have HBW := Lib.hid ((HB_w.out.setCell (p := ⟨w.heap.size + 1, 0, none⟩) (by show w.heap.size ≤ w.heap.size + 1; omega) (.int .i64 m.next)).setCell (p := ⟨w.heap.size + 1, 1, none⟩) (by show w.heap.size ≤ w.heap.size + 1; omega) (.slice At n ct))
    refine bodyPost_ret (v := .tuple #[.agg #[.int .i64 m.next, .slice At n ct], .int .i64 0]) (by simp [results, Try.results48, go_sem, f0, f1]) rfl ⟨⟨_, rfl, Or.inr ⟨E.out, _, rfl, ?_⟩⟩, HBW.out⟩
    rw [← HFIN.out]
    refine (HO2.out.keep (w' := (uz.setCell ⟨w.heap.size + 1, 0, none⟩ (.int .i64 m.next)).setCell ⟨w.heap.size + 1, 1, none⟩ (.slice At n ct)) (fun b h1 _ => ?_)).isRow (fun b h1 h2 => ⟨by have := HBASE.out; omega, h2⟩)
    have := HBASE.out
    exact (Below.heap_setCell _ _ _ _ (by show b ≠ w.heap.size + 1; omega)).trans (Below.heap_setCell _ _ _ _ (by show b ≠ w.heap.size + 1; omega))
  · have g1 : (p != 0) = true := by simp; exact hp0
    rcases hwc : wordA role with _ | _
    · have E := Lib.hid (show EE = 2 from HEE.out.symm.trans (moveE_word HCM.out hp0 hwc))
      have HW := Lib.hid hwc
      clear hwc
      go_enter Try.func48, Try.ntmps48
      go_wp2_with fail
      (try rw [HU0.out])
      refine HC2.out.mono ?_
      rintro _ u1 ⟨rfl, hb⟩
      replace HB_w : Hid (Below w.heap.size w u1) := Lib.hid (HB_w.out.trans (hb.mono HB_w.out.size))
      replace HM := Lib.hid (HM.out.below hb HM.out.lt)
      replace HR := Lib.hid (HR.out.below hb HR.out.lt)
      clear hb HU0 HC2
      go_wp2_with fail
      refine (rword_is hns HW.out u1).mono ?_
      rintro _ u2 ⟨rfl, hb⟩
      replace HB_w : Hid (Below w.heap.size w u2) := Lib.hid (HB_w.out.trans (hb.mono HB_w.out.size))
      replace HM := Lib.hid (HM.out.below hb HM.out.lt)
      replace HR := Lib.hid (HR.out.below hb HR.out.lt)
      clear hb
      have t0 := HR.out.frozen 0; have t1 := HR.out.frozen 1
      have r0 := HR.out.cell 0; have r1 := HR.out.cell 1
      have hrlt := HR.out.lt
      simp at r0 r1
      go_wp2_with fail
      have hyS := (HR.out.set_ 0 (.int .i64 0)).set_ 1 (.slice none 0 0)
      have f0 := hyS.cell 0; have f1 := hyS.cell 1
      simp at f0 f1
      have HBW := Lib.hid ((HB_w.out.setCell (p := ⟨w.heap.size + 1, 0, none⟩) (by show w.heap.size ≤ w.heap.size + 1; omega) (.int .i64 0)).setCell (p := ⟨w.heap.size + 1, 1, none⟩) (by show w.heap.size ≤ w.heap.size + 1; omega) (.slice none 0 0))
      exact bodyPost_ret (v := .tuple #[.agg #[.int .i64 0, .slice none 0 0], .int .i64 (2)]) (by simp [results, Try.results48, go_sem, f0, f1]) rfl ⟨⟨_, rfl, Or.inl ⟨by rw [E.out]; decide, by rw [E.out]⟩⟩, HBW.out⟩
    · have HW := Lib.hid hwc
      clear hwc
      have HWD : Hid (p ≠ 0 → wordA role = true) := Lib.hid (fun _ => HW.out)
      rcases atI_cases m.nodes p with ⟨jp, hjp, hjp1, hjp2⟩ | ⟨hjp1, hjp2⟩
      rotate_left 1
      · have HATP := Lib.hid hjp2
        have HLTP : Hid (atI m.nodes p < 0) := Lib.hid (by rw [hjp2]; omega)
        clear hjp1 hjp2
        go_enter Try.func48, Try.ntmps48
        go_wp2_with fail
        (try rw [HU0.out])
        refine HC2.out.mono ?_
        rintro _ u1 ⟨rfl, hb⟩
        replace HB_w : Hid (Below w.heap.size w u1) := Lib.hid (HB_w.out.trans (hb.mono HB_w.out.size))
        replace HM := Lib.hid (HM.out.below hb HM.out.lt)
        replace HR := Lib.hid (HR.out.below hb HR.out.lt)
        clear hb HU0 HC2
        go_wp2_with fail
        refine (rword_is hns HW.out u1).mono ?_
        rintro _ u2 ⟨rfl, hb⟩
        replace HB_w : Hid (Below w.heap.size w u2) := Lib.hid (HB_w.out.trans (hb.mono HB_w.out.size))
        replace HM := Lib.hid (HM.out.below hb HM.out.lt)
        replace HR := Lib.hid (HR.out.below hb HR.out.lt)
        clear hb
        have HMc0 := HM.out.cell 0
        have HMc1 := HM.out.cell 1
        have HMlt := HM.out.lt
        simp at HMc0 HMc1
        have HPL := Lib.hid (at_any A c m.next id m.nodes u2 F (fun b hb => Nat.lt_of_lt_of_le (hF b hb) HB_w.out.size) (HH.out.keep ENode.stays (Keep.below HB_w.out hF) (fun _ h => h)) HS.out.1 (by rw [HN.out]; omega))
        rw [HAT.out, HN.out] at HPL
        go_wp2_with fail
        refine (HPL.out).mono ?_
        rintro _ u3 ⟨rfl, hb⟩
        replace HB_w : Hid (Below w.heap.size w u3) := Lib.hid (HB_w.out.trans (hb.mono HB_w.out.size))
        replace HM := Lib.hid (HM.out.below hb HM.out.lt)
        replace HR := Lib.hid (HR.out.below hb HR.out.lt)
        clear hb
        clear HPL HMc0 HMc1 HMlt
        have HMc0 := HM.out.cell 0
        have HMc1 := HM.out.cell 1
        have HMlt := HM.out.lt
        simp at HMc0 HMc1
        have HPL := Lib.hid (at_any A c m.next p m.nodes u3 F (fun b hb => Nat.lt_of_lt_of_le (hF b hb) HB_w.out.size) (HH.out.keep ENode.stays (Keep.below HB_w.out hF) (fun _ h => h)) HS.out.1 (by rw [HN.out]; omega))
        rw [HATP.out, HN.out] at HPL
        go_wp2_with fail
        refine (HPL.out).mono ?_
        rintro _ u4 ⟨rfl, hb⟩
        replace HB_w : Hid (Below w.heap.size w u4) := Lib.hid (HB_w.out.trans (hb.mono HB_w.out.size))
        replace HM := Lib.hid (HM.out.below hb HM.out.lt)
        replace HR := Lib.hid (HR.out.below hb HR.out.lt)
        clear hb
        clear HPL HMc0 HMc1 HMlt
        have g5 : decide ((-1 : Int) < 0) = true := by decide
        have E := Lib.hid (show EE = 20 from HEE.out.symm.trans (moveE_node HCM.out HWD.out (.inr ⟨hp0, HLTP.out⟩)))
        have t0 := HR.out.frozen 0; have t1 := HR.out.frozen 1
        have r0 := HR.out.cell 0; have r1 := HR.out.cell 1
        have hrlt := HR.out.lt
        simp at r0 r1
        go_wp2_with fail
        have hyS := (HR.out.set_ 0 (.int .i64 0)).set_ 1 (.slice none 0 0)
        have f0 := hyS.cell 0; have f1 := hyS.cell 1
        simp at f0 f1
        have HBW := Lib.hid ((HB_w.out.setCell (p := ⟨w.heap.size + 1, 0, none⟩) (by show w.heap.size ≤ w.heap.size + 1; omega) (.int .i64 0)).setCell (p := ⟨w.heap.size + 1, 1, none⟩) (by show w.heap.size ≤ w.heap.size + 1; omega) (.slice none 0 0))
        exact bodyPost_ret (v := .tuple #[.agg #[.int .i64 0, .slice none 0 0], .int .i64 (20)]) (by simp [results, Try.results48, go_sem, f0, f1]) rfl ⟨⟨_, rfl, Or.inl ⟨by rw [E.out]; decide, by rw [E.out]⟩⟩, HBW.out⟩
      have HATP := Lib.hid hjp2
      have HNN : Hid (¬ (atI m.nodes id < 0 ∨ (p ≠ 0 ∧ atI m.nodes p < 0))) := Lib.hid (by
        rintro (h | h)
        · exact HLT.out h
        · have := h.2; rw [hjp2] at this; omega)
      have g5 : decide ((jp : Int) < 0) = false := decide_eq_false (by omega)
      obtain ⟨y, hy⟩ : ∃ y, m.nodes[jp] = y := ⟨_, rfl⟩
      have HY : Hid (y ∈ m.nodes ∧ y.id = p) := Lib.hid ⟨by rw [← hy]; exact List.getElem_mem hjp, by rw [← hy]; exact hjp1⟩
      clear hjp1 hjp2 hy
      go_enter Try.func48, Try.ntmps48
      go_wp2_with fail
      (try rw [HU0.out])
      refine HC2.out.mono ?_
      rintro _ u1 ⟨rfl, hb⟩
      replace HB_w : Hid (Below w.heap.size w u1) := Lib.hid (HB_w.out.trans (hb.mono HB_w.out.size))
      replace HM := Lib.hid (HM.out.below hb HM.out.lt)
      replace HR := Lib.hid (HR.out.below hb HR.out.lt)
      clear hb HU0 HC2
      go_wp2_with fail
      refine (rword_is hns HW.out u1).mono ?_
      rintro _ u2 ⟨rfl, hb⟩
      replace HB_w : Hid (Below w.heap.size w u2) := Lib.hid (HB_w.out.trans (hb.mono HB_w.out.size))
      replace HM := Lib.hid (HM.out.below hb HM.out.lt)
      replace HR := Lib.hid (HR.out.below hb HR.out.lt)
      clear hb
      have HMc0 := HM.out.cell 0
      have HMc1 := HM.out.cell 1
      have HMlt := HM.out.lt
      simp at HMc0 HMc1
      have HPL := Lib.hid (at_any A c m.next id m.nodes u2 F (fun b hb => Nat.lt_of_lt_of_le (hF b hb) HB_w.out.size) (HH.out.keep ENode.stays (Keep.below HB_w.out hF) (fun _ h => h)) HS.out.1 (by rw [HN.out]; omega))
      rw [HAT.out, HN.out] at HPL
      go_wp2_with fail
      refine (HPL.out).mono ?_
      rintro _ u3 ⟨rfl, hb⟩
      replace HB_w : Hid (Below w.heap.size w u3) := Lib.hid (HB_w.out.trans (hb.mono HB_w.out.size))
      replace HM := Lib.hid (HM.out.below hb HM.out.lt)
      replace HR := Lib.hid (HR.out.below hb HR.out.lt)
      clear hb
      clear HPL HMc0 HMc1 HMlt
      have HMc0 := HM.out.cell 0
      have HMc1 := HM.out.cell 1
      have HMlt := HM.out.lt
      simp at HMc0 HMc1
      have HPL := Lib.hid (at_any A c m.next p m.nodes u3 F (fun b hb => Nat.lt_of_lt_of_le (hF b hb) HB_w.out.size) (HH.out.keep ENode.stays (Keep.below HB_w.out hF) (fun _ h => h)) HS.out.1 (by rw [HN.out]; omega))
      rw [HATP.out, HN.out] at HPL
      go_wp2_with fail
      refine (HPL.out).mono ?_
      rintro _ u4 ⟨rfl, hb⟩
      replace HB_w : Hid (Below w.heap.size w u4) := Lib.hid (HB_w.out.trans (hb.mono HB_w.out.size))
      replace HM := Lib.hid (HM.out.below hb HM.out.lt)
      replace HR := Lib.hid (HR.out.below hb HR.out.lt)
      clear hb
      clear HPL HMc0 HMc1 HMlt
      by_cases hne0 : p = id
      · have E := Lib.hid (show EE = 21 from HEE.out.symm.trans (moveE_loop HCM.out HWD.out HNN.out (.inl hne0)))
        have g6 : (p == id) = true := by simp; exact hne0
        clear hne0
        have t0 := HR.out.frozen 0; have t1 := HR.out.frozen 1
        have r0 := HR.out.cell 0; have r1 := HR.out.cell 1
        have hrlt := HR.out.lt
        simp at r0 r1
        go_wp2_with fail
        have hyS := (HR.out.set_ 0 (.int .i64 0)).set_ 1 (.slice none 0 0)
        have f0 := hyS.cell 0; have f1 := hyS.cell 1
        simp at f0 f1
        have HBW := Lib.hid ((HB_w.out.setCell (p := ⟨w.heap.size + 1, 0, none⟩) (by show w.heap.size ≤ w.heap.size + 1; omega) (.int .i64 0)).setCell (p := ⟨w.heap.size + 1, 1, none⟩) (by show w.heap.size ≤ w.heap.size + 1; omega) (.slice none 0 0))
        exact bodyPost_ret (v := .tuple #[.agg #[.int .i64 0, .slice none 0 0], .int .i64 (21)]) (by simp [results, Try.results48, go_sem, f0, f1]) rfl ⟨⟨_, rfl, Or.inl ⟨by rw [E.out]; decide, by rw [E.out]⟩⟩, HBW.out⟩
      · have hne : p ≠ id := hne0
        have g6 : (p == id) = false := beq_eq_false_iff_ne.2 hne
        clear hne0
        cases hcc : (belowL m id).contains p
        rotate_left 1
        · have E := Lib.hid (show EE = 21 from HEE.out.symm.trans (moveE_loop HCM.out HWD.out HNN.out (.inr (List.contains_iff_mem.1 hcc))))
          have HMc0 := HM.out.cell 0
          have HMc1 := HM.out.cell 1
          have HMlt := HM.out.lt
          simp at HMc0 HMc1
          have HUD := Lib.hid (down_any A c m u4 F (fun b hb => Nat.lt_of_lt_of_le (hF b hb) HB_w.out.size) (HH.out.keep ENode.stays (Keep.below HB_w.out hF) (fun _ h => h)) HCM.out.tree HS.out HK4.out (by rw [HN.out]; omega) x HX.out.1)
          rw [HN.out, HX.out.2] at HUD
          go_wp2_with fail
          refine HUD.out.mono ?_
          rintro _ ux ⟨vl, rfl, hown, hb⟩
          replace HB_w : Hid (Below w.heap.size w ux) := Lib.hid (HB_w.out.trans (hb.mono HB_w.out.size))
          replace HM := Lib.hid (HM.out.below hb HM.out.lt)
          replace HR := Lib.hid (HR.out.below hb HR.out.lt)
          clear hb HUD HMc0 HMc1 HMlt
          have hlb : (belowL m id).length ≤ 4096 := by have := HCM.out.tree.below_len HX.out.1; rw [HX.out.2, HN.out] at this; omega
          obtain ⟨Al, cl, rfl⟩ := hown.shape
          have HCT := Lib.hid (has_any Al cl (belowL m id) (p) ux (fun b => b < ux.heap.size) (by
            obtain ⟨A', c', e, _, _, h3⟩ := hown.isRow (F := fun b => b < ux.heap.size) (fun b _ h => h)
            injection e with e1; subst e1; exact h3) (by omega))
          rw [show decide (p ∈ belowL m id) = _ from (List.contains_eq_mem _ _).symm.trans hcc] at HCT
          clear hown hlb
          go_wp2_with fail
          refine HCT.out.mono ?_
          rintro _ uy ⟨rfl, rfl⟩
          clear HCT hcc
          have t0 := HR.out.frozen 0; have t1 := HR.out.frozen 1
          have r0 := HR.out.cell 0; have r1 := HR.out.cell 1
          have hrlt := HR.out.lt
          simp at r0 r1
          go_wp2_with fail
          have hyS := (HR.out.set_ 0 (.int .i64 0)).set_ 1 (.slice none 0 0)
          have f0 := hyS.cell 0; have f1 := hyS.cell 1
          simp at f0 f1
          have HBW := Lib.hid ((HB_w.out.setCell (p := ⟨w.heap.size + 1, 0, none⟩) (by show w.heap.size ≤ w.heap.size + 1; omega) (.int .i64 0)).setCell (p := ⟨w.heap.size + 1, 1, none⟩) (by show w.heap.size ≤ w.heap.size + 1; omega) (.slice none 0 0))
          exact bodyPost_ret (v := .tuple #[.agg #[.int .i64 0, .slice none 0 0], .int .i64 (21)]) (by simp [results, Try.results48, go_sem, f0, f1]) rfl ⟨⟨_, rfl, Or.inl ⟨by rw [E.out]; decide, by rw [E.out]⟩⟩, HBW.out⟩
        · have HNL : Hid (¬ (p = id ∨ p ∈ belowL m id)) := Lib.hid (by
            rintro (h | h)
            · exact hne h
            · rw [List.contains_iff_mem.2 h] at hcc; cases hcc)
          have HMc0 := HM.out.cell 0
          have HMc1 := HM.out.cell 1
          have HMlt := HM.out.lt
          simp at HMc0 HMc1
          have HUD := Lib.hid (down_any A c m u4 F (fun b hb => Nat.lt_of_lt_of_le (hF b hb) HB_w.out.size) (HH.out.keep ENode.stays (Keep.below HB_w.out hF) (fun _ h => h)) HCM.out.tree HS.out HK4.out (by rw [HN.out]; omega) x HX.out.1)
          rw [HN.out, HX.out.2] at HUD
          go_wp2_with fail
          refine HUD.out.mono ?_
          rintro _ ux ⟨vl, rfl, hown, hb⟩
          replace HB_w : Hid (Below w.heap.size w ux) := Lib.hid (HB_w.out.trans (hb.mono HB_w.out.size))
          replace HM := Lib.hid (HM.out.below hb HM.out.lt)
          replace HR := Lib.hid (HR.out.below hb HR.out.lt)
          clear hb HUD HMc0 HMc1 HMlt
          have hlb : (belowL m id).length ≤ 4096 := by have := HCM.out.tree.below_len HX.out.1; rw [HX.out.2, HN.out] at this; omega
          obtain ⟨Al, cl, rfl⟩ := hown.shape
          have HCT := Lib.hid (has_any Al cl (belowL m id) (p) ux (fun b => b < ux.heap.size) (by
            obtain ⟨A', c', e, _, _, h3⟩ := hown.isRow (F := fun b => b < ux.heap.size) (fun b _ h => h)
            injection e with e1; subst e1; exact h3) (by omega))
          rw [show decide (p ∈ belowL m id) = _ from (List.contains_eq_mem _ _).symm.trans hcc] at HCT
          clear hown hlb
          go_wp2_with fail
          refine HCT.out.mono ?_
          rintro _ uy ⟨rfl, rfl⟩
          clear HCT hcc
          have HMc0 := HM.out.cell 0
          have HMc1 := HM.out.cell 1
          have HMlt := HM.out.lt
          simp at HMc0 HMc1
          have HHT := Lib.hid (high_any A c m ux F (fun b hb => Nat.lt_of_lt_of_le (hF b hb) HB_w.out.size) (HH.out.keep ENode.stays (Keep.below HB_w.out hF) (fun _ h => h)) HCM.out HRPP.out HRK.out HK4.out x HX.out.1)
          rw [HN.out, HX.out.2] at HHT
          go_wp2_with fail
          refine HHT.out.mono ?_
          rintro _ uh ⟨rfl, hb⟩
          replace HB_w : Hid (Below w.heap.size w uh) := Lib.hid (HB_w.out.trans (hb.mono HB_w.out.size))
          replace HM := Lib.hid (HM.out.below hb HM.out.lt)
          replace HR := Lib.hid (HR.out.below hb HR.out.lt)
          clear hb HHT HMc0 HMc1 HMlt
          obtain ⟨hg, hhg⟩ : ∃ z, heightN m id = z := ⟨_, rfl⟩
          have HHG := Lib.hid hhg
          have hg64 : 1 ≤ hg ∧ hg ≤ 64 := by have := height_le HCM.out HX.out.1; rw [HX.out.2, hhg] at this; exact this
          rw [hhg]
          clear hhg
          have HMc0 := HM.out.cell 0
          have HMc1 := HM.out.cell 1
          have HMlt := HM.out.lt
          simp at HMc0 HMc1
          have HTW := Lib.hid (twinR_any A c m uh F (fun b hb => Nat.lt_of_lt_of_le (hF b hb) HB_w.out.size) (HH.out.keep ENode.stays (Keep.below HB_w.out hF) (fun _ h => h)) HZ'.out (by rw [HN.out]; omega))
          rw [HN.out] at HTW
          go_wp2_with fail
          refine HTW.out.mono ?_
          rintro _ ut ⟨vt, rfl, l, hown, hlm, hb⟩
          have HBASE : Hid (w.heap.size + 1 < uh.heap.size) := Lib.hid HR.out.lt
          replace HB_w : Hid (Below w.heap.size w ut) := Lib.hid (HB_w.out.trans (hb.mono HB_w.out.size))
          replace HM := Lib.hid (HM.out.below hb HM.out.lt)
          replace HR := Lib.hid (HR.out.below hb HR.out.lt)
          have hll : l.length = n := by rw [← HN.out, ← hlm, List.length_map]
          obtain ⟨At, ct, rfl⟩ := own_shape hown.row
          rw [hll] at hown ⊢
          have HO := Lib.hid hown; have HLM := Lib.hid hlm; have HBT : Hid (uh.heap.size ≤ ut.heap.size) := Lib.hid hb.size
          clear hb hown hlm HTW HMc0 HMc1 HMlt
          obtain ⟨u1, hu⟩ : ∃ u : World, ut.alloc (.cells #[.int .i64 m.next, .slice At n ct] 24) = u := ⟨_, rfl⟩
          have HBU : Below ut.heap.size ut u1 := by rw [← hu]; exact (Below.refl _ _).alloc (Nat.le_refl _) _
          have HP : Hid (Blk u1 ut.heap.size 24 #[.int .i64 m.next, .slice At n ct]) := Lib.hid (by rw [← hu]; exact Blk.new _ _ _)
          have HUE := Lib.hid hu
          clear hu
          replace HB_w : Hid (Below w.heap.size w u1) := Lib.hid (HB_w.out.trans (HBU.mono HB_w.out.size))
          replace HM := Lib.hid (HM.out.below HBU HM.out.lt)
          replace HR := Lib.hid (HR.out.below HBU HR.out.lt)
          clear HBU
          replace HO := Lib.hid (HO.out.below (show Below ut.heap.size ut u1 from by rw [← HUE.out]; exact (Below.refl ut.heap.size ut).alloc (Nat.le_refl _) _))
          have HPB : Hid (uh.heap.size ≤ ut.heap.size) := HBT
          go_upto_region 11 with fail
          (try rw [HUE.out])
          (try clear HUE)
          have HPc0 := HP.out.cell 0
          have HPc1 := HP.out.cell 1
          have HPlt := HP.out.lt
          simp at HPc0 HPc1
          have HUN := Lib.hid (take_any m.next (.slice At n ct) l u1 uh.heap.size (OB uh.heap.size ut.heap.size) (HO.out.ob HP.out) HO.out (by have := HP.out.lt; have := HPB.out; omega) (by rw [HLM.out]; exact HS.out) (by rw [HO.out.len_map HLM.out, HN.out]; omega) (by rw [HLM.out]; exact check_kids4 HCM.out) x (by rw [HLM.out]; exact HX.out.1) (by rw [HLM.out]; exact check_parent HCM.out HX.out.1))
          rw [HLM.out, HX.out.2] at HUN
          go_wp2_with fail
          refine HUN.out.mono ?_
          rintro _ un ⟨rfl, l1, hown, hlm, hk⟩
          have HO1 := Lib.hid hown
          have HL1 : Hid (l1.map LN.n = (mu m x).nodes) := Lib.hid (by rw [hlm]; show _ = unhangN m.nodes x.parent x.id; rw [HX.out.2])
          have hno1 : ¬ OB uh.heap.size ut.heap.size w.heap.size := fun h => by have := h.1; have := HBASE.out; omega
          have hno2 : ¬ OB uh.heap.size ut.heap.size (w.heap.size + 1) := fun h => by have := h.1; have := HBASE.out; omega
          have hno3 : ¬ OB uh.heap.size ut.heap.size ut.heap.size := fun h => h.2 rfl
          replace HM := Lib.hid (hk.blk HM.out hno1)
          replace HR := Lib.hid (hk.blk HR.out hno2)
          replace HP := Lib.hid (hk.blk HP.out hno3)
          replace HB_w : Hid (Below w.heap.size w un) := Lib.hid (HB_w.out.trans (hk.toBelow HB_w.out.size (fun b h => by have := h.1; have := HBASE.out; omega)))
          clear hown hlm hk HUN HPc0 HPc1 HPlt
          obtain ⟨ns1, hns1⟩ : ∃ z, mu m x = z := ⟨_, rfl⟩
          have HMU := Lib.hid hns1
          have HMN : Hid (ns1.nodes.length = n) := Lib.hid (by rw [← hns1, mu_len, HN.out])
          have HMX : Hid (ns1.next = m.next) := Lib.hid (by rw [← hns1]; rfl)
          have HS1 : Hid (SrtB ns1.nodes) := Lib.hid (by rw [← hns1]; exact mu_srt HCM.out)
          have HID1 : Hid (∀ i, IdAt ns1 i) := Lib.hid (by rw [← hns1]; exact mu_ids HCM.out)
          have HFM1 : Hid (Fam ns1) := Lib.hid (by rw [← hns1]; exact mu_fam HCM.out)
          have HCL1 : Hid (Closed ns1.nodes) := Lib.hid (by rw [← hns1]; exact mu_closed HCM.out)
          have HNK1 : Hid (∀ y ∈ ns1.nodes, x.id ∉ y.kids) := Lib.hid (by rw [← hns1]; exact mu_nokid HCM.out HX.out.1)
          have HK41 : Hid (∀ y ∈ ns1.nodes, y.kids.length ≤ 4096) := Lib.hid (by rw [← hns1]; exact mu_kids4 HCM.out)
          have HRK1 : Hid (∀ y ∈ ns1.nodes, ∀ k ∈ y.kids, InR k) := Lib.hid (by rw [← hns1]; exact mu_kidsR HRK.out)
          have HRP1 : Hid (∀ y ∈ ns1.nodes, InR y.parent) := Lib.hid (by rw [← hns1]; exact mu_parR HRPP.out)
          have HXN : Hid (∃ x1 ∈ ns1.nodes, x1.id = x.id) := Lib.hid (by rw [← hns1]; obtain ⟨y, hy, e, _⟩ := mu_node (x := x) HX.out.1; exact ⟨y, hy, e⟩)
          rw [hns1] at HL1
          have HROW : Hid (RowOf 7 ENode un (fun b => uh.heap.size ≤ b ∧ b < un.heap.size) At ns1.nodes) := Lib.hid (by rw [← HL1.out]; exact HO1.out.rowOf (fun b h1 h2 => ⟨h1, h2⟩))
          have HPc0 := HP.out.cell 0
          have HPc1 := HP.out.cell 1
          have HPlt := HP.out.lt
          simp at HPc0 HPc1
          obtain ⟨y1, hy1, hy1i⟩ : ∃ y1 ∈ ns1.nodes, y1.id = p := by rw [← hns1]; obtain ⟨y, hy, e, _⟩ := mu_node (x := x) HY.out.1; exact ⟨y, hy, e.trans HY.out.2⟩
          obtain ⟨jy, hjy, hjye⟩ := List.getElem_of_mem hy1
          obtain ⟨dp, hdp6, hdp⟩ := HCM.out.tree.dep y HY.out.1
          rw [HY.out.2] at hdp
          have hdp1 : Dep ns1 dp y1.id := by rw [← hns1, hy1i]; exact mu_dep HCM.out hdp
          obtain ⟨EG, hEG⟩ : ∃ z, kidE (spotI y1.kids (inL ns1 y1 role) a) dp hg = z := ⟨_, rfl⟩
          have E : Hid (EE = EG) := Lib.hid (by
            rw [← HEE.out, moveE_goal HCM.out HWD.out HNN.out HNL.out, HXO.out, hns1, ← hy1i, goalE_kid HFM1.out hy1 (by rw [hy1i]; exact hp0), hy1i, dN_yes HCM.out hdp, HHG.out]
            exact hEG)
          have HEG := Lib.hid hEG
          have HGO := Lib.hid (mayI_any At ct ns1 un (fun b => uh.heap.size ≤ b ∧ b < un.heap.size) (fun b h => h.2) HROW.out HID1.out HFM1.out HS1.out HRP1.out HRK1.out (by rw [HMN.out]; omega) jy hjy y1 hjye (HK41.out y1 hy1) role a ha dp hdp1 hdp6 hg (by omega))
          rw [hEG, HMN.out, HMX.out, hy1i] at HGO
          clear hns1 hEG hjye hdp hdp1
          go_wp2_with fail
          refine HGO.out.mono ?_
          rintro _ ug ⟨rfl, hb⟩
          replace HO1 := Lib.hid (HO1.out.below hb)
          have hbug := hb.size
          replace HB_w : Hid (Below w.heap.size w ug) := Lib.hid (HB_w.out.trans (hb.mono HB_w.out.size))
          replace HM := Lib.hid (HM.out.below hb HM.out.lt)
          replace HR := Lib.hid (HR.out.below hb HR.out.lt)
          replace HP := Lib.hid (HP.out.below hb HP.out.lt)
          clear hb HGO HPc0 HPc1 HPlt HROW
          by_cases hEG0 : EG = 0
          rotate_left 1
          · have hEne : EG ≠ 0 := hEG0
            have hEG1 : (EG != 0) = true := by simp; exact hEG0
            clear hEG0
            have t0 := HR.out.frozen 0; have t1 := HR.out.frozen 1
            have r0 := HR.out.cell 0; have r1 := HR.out.cell 1
            have hrlt := HR.out.lt
            simp at r0 r1
            go_wp2_with fail
            have hyS := (HR.out.set_ 0 (.int .i64 0)).set_ 1 (.slice none 0 0)
            have f0 := hyS.cell 0; have f1 := hyS.cell 1
            simp at f0 f1
            have HBW := Lib.hid ((HB_w.out.setCell (p := ⟨w.heap.size + 1, 0, none⟩) (by show w.heap.size ≤ w.heap.size + 1; omega) (.int .i64 0)).setCell (p := ⟨w.heap.size + 1, 1, none⟩) (by show w.heap.size ≤ w.heap.size + 1; omega) (.slice none 0 0))
            exact bodyPost_ret (v := .tuple #[.agg #[.int .i64 0, .slice none 0 0], .int .i64 (EG)]) (by simp [results, Try.results48, go_sem, f0, f1]) rfl ⟨⟨_, rfl, Or.inl ⟨by rw [E.out]; exact hEne, by rw [E.out]⟩⟩, HBW.out⟩
          subst hEG0
          obtain ⟨x1, hx1, hx1i⟩ := HXN.out
          obtain ⟨ii, hii⟩ : ∃ z, iOf ns1 p role a = z := ⟨_, rfl⟩
          have HPA : Hid (PlaceAt m.next ns1.nodes x1.id p role a ii) := Lib.hid (by
            rw [← hii, ← HMX.out]
            exact place_of (id := x1.id) (p := p) HFM1.out HK41.out (by rw [hx1i, HX.out.2]; exact hne) (.inr ⟨y1, hy1, hy1i⟩) (d := dp) (high := hg) (by rw [← hy1i, goalE_kid HFM1.out hy1 (by rw [hy1i]; exact hp0)]; exact HEG.out))
          have HHA := Lib.hid (put_any m.next (.slice At n ct) l1 ug uh.heap.size (OB uh.heap.size ut.heap.size) (HO1.out.ob HP.out) HO1.out (by have := HP.out.lt; have := HPB.out; omega) (by rw [HL1.out]; exact HS1.out) (by rw [HL1.out]; exact HRK1.out) (by rw [HO1.out.len_map HL1.out, HMN.out]; omega) (by rw [HL1.out]; exact HCL1.out) x1 (by rw [HL1.out]; exact hx1) p role a ha ii (by rw [HL1.out]; exact HPA.out) (fun h => absurd h hp0))
          rw [HL1.out, hx1i, HX.out.2] at HHA
          have HII := Lib.hid hii
          clear hii hx1 hx1i HPA hne
          have HPc0 := HP.out.cell 0
          have HPc1 := HP.out.cell 1
          have HPlt := HP.out.lt
          simp at HPc0 HPc1
          have q0 : ((0 : Int) != 0) = false := by decide
          go_wp2_with fail
          refine HHA.out.mono ?_
          rintro _ uz ⟨rfl, l2, hown, hlm, hk⟩
          have hno2 : ¬ OB uh.heap.size ut.heap.size (w.heap.size + 1) := fun h => by have := h.1; have := HBASE.out; omega
          have hno3 : ¬ OB uh.heap.size ut.heap.size ut.heap.size := fun h => h.2 rfl
          replace HR := Lib.hid (hk.blk HR.out hno2)
          replace HP := Lib.hid (hk.blk HP.out hno3)
          replace HB_w : Hid (Below w.heap.size w uz) := Lib.hid (HB_w.out.trans (hk.toBelow HB_w.out.size (fun b h => by have := h.1; have := HBASE.out; omega)))
          have HFIN : Hid (l2.map LN.n = LL) := Lib.hid (by
            rw [hlm, ← HLL.out]
            unfold moveL
            rw [HXO.out, HMU.out, HII.out])
          have HO2 := Lib.hid hown
          clear hown hlm hk HHA HPc0 HPc1 HPlt HM
          have p0 := HP.out.cell 0; have p1 := HP.out.cell 1
          have hplt := HP.out.lt
          simp at p0 p1
          have t0 := HR.out.frozen 0; have t1 := HR.out.frozen 1
          have r0 := HR.out.cell 0; have r1 := HR.out.cell 1
          have hrlt := HR.out.lt
          simp at r0 r1
          go_wp2_with fail
          have hyS := (HR.out.set_ 0 (.int .i64 m.next)).set_ 1 (.slice At n ct)
          have f0 := hyS.cell 0; have f1 := hyS.cell 1
          simp at f0 f1
          have HBW := Lib.hid ((HB_w.out.setCell (p := ⟨w.heap.size + 1, 0, none⟩) (by show w.heap.size ≤ w.heap.size + 1; omega) (.int .i64 m.next)).setCell (p := ⟨w.heap.size + 1, 1, none⟩) (by show w.heap.size ≤ w.heap.size + 1; omega) (.slice At n ct))
          refine bodyPost_ret (v := .tuple #[.agg #[.int .i64 m.next, .slice At n ct], .int .i64 0]) (by simp [results, Try.results48, go_sem, f0, f1]) rfl ⟨⟨_, rfl, Or.inr ⟨E.out, _, rfl, ?_⟩⟩, HBW.out⟩
          rw [← HFIN.out]
          refine (HO2.out.keep (w' := (uz.setCell ⟨w.heap.size + 1, 0, none⟩ (.int .i64 m.next)).setCell ⟨w.heap.size + 1, 1, none⟩ (.slice At n ct)) (fun b h1 _ => ?_)).isRow (fun b h1 h2 => ⟨by have := HBASE.out; omega, h2⟩)
          have := HBASE.out
          exact (Below.heap_setCell _ _ _ _ (by show b ≠ w.heap.size + 1; omega)).trans (Below.heap_setCell _ _ _ _ (by show b ≠ w.heap.size + 1; omega))
end Go.Proofs.Ytmafhaadcjgcbaa
end
