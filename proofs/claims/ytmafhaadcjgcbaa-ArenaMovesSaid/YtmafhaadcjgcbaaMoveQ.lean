import Derived.Test.YtmafhaadcjgcbaaHang
import Derived.Test.YtmafhaadcjgcbaaQTail
import Derived.Test.YtmafhaadcjgcbaaMoveP
import Derived.Test.YtmafhaadcjgcbaaHeight
import Derived.Test.YtmafhaadcjgcbaaAddP
import Derived.Test.YtmafhaadcjgcbaaShelf
set_option linter.unusedSimpArgs false
set_option linter.unusedVariables false
section
namespace Go.Proofs.Ytmafhaadcjgcbaa
open Go Go.RowKit

set_option maxRecDepth 100000 in
set_option maxHeartbeats 4000000 in
theorem putKid_any (next : Int) (v : Value) (l : List LN) (w : World) (base : Nat) (O : Nat → Prop) (hOO : ∀ b, some b ∈ (v.ownBlock :: allBlocks l) → O b) (hO : OwnM w base v l) (hbw : base ≤ w.heap.size) (hS : SrtB (l.map LN.n)) (hr : ∀ x ∈ l.map LN.n, ∀ k ∈ x.kids, InR k) (hl : l.length ≤ 1048576)
    (jn : Nat) (hjn : jn < l.length) (X : LN) (hX : l[jn] = X) (jp : Nat) (hjp : jp < l.length) (Y : LN) (hY : l[jp] = Y) (hne : jp ≠ jn) (role : ByteArray) (a : Int) (ha : InR a)
    (hF : Closed (l.map LN.n)) (i : Int) (hsp : spotI Y.n.kids (inL ⟨next, l.map LN.n⟩ Y.n role) a = some i) (hk4 : Y.n.kids.length ≤ 4096) :
    Calls Try.prog 85 #[.agg #[.int .i64 next, v], .int .i64 X.n.id, .int .i64 Y.n.id, .string role, .int .i64 a] w fun e w' => e = .returned (.tuple #[]) ∧
      ∃ l', OwnM w' base v l' ∧ l'.map LN.n = ((l.map LN.n).set jp { Y.n with kids := insAt Y.n.kids i.toNat X.n.id }).set jn { X.n with parent := Y.n.id, role := role } ∧ KeepO O w w' := by
  obtain ⟨g, cap, rfl, hnc, hcm, hgb, hgw⟩ := own_some hO.row (by omega)
  have HOG : O g := hOO g (by show some g ∈ some g :: _; exact List.mem_cons_self ..)
  have HOK : Hid (∀ b, Y.k.ownBlock = some b → O b) := Lib.hid (fun b e => hOO b (List.mem_cons_of_mem _ (mem_all (x := Y) (by rw [← hY]; exact List.getElem_mem hjp) (by simp [LN.blocks, e]))))
  obtain ⟨ns, hns⟩ : ∃ ns, l.map LN.n = ns := ⟨_, rfl⟩
  have hlen : l.length = ns.length := by rw [← hns]; simp
  have hXn : ns[jn]? = some X.n := by rw [← hns]; simp [hjn, hX]
  have hYn : ns[jp]? = some Y.n := by rw [← hns]; simp [hjp, hY]
  rw [hns] at hS hr hF hsp ⊢
  rw [hlen] at hO ⊢
  have hjn2 : jn < ns.length := by omega
  have hjp2 : jp < ns.length := by omega
  have hXg : ns[jn] = X.n := by rw [List.getElem?_eq_getElem hjn2] at hXn; injection hXn
  have hYg : ns[jp] = Y.n := by rw [List.getElem?_eq_getElem hjp2] at hYn; injection hYn
  have hXi := hS.2 jn hjn2; have hYi := hS.2 jp hjp2
  rw [hXg] at hXi; rw [hYg] at hYi
  have hatX : atI ns X.n.id = jn := by rw [← hXg]; exact atI_some hS.1 hjn2 rfl
  have hatY : atI ns Y.n.id = jp := by rw [← hYg]; exact atI_some hS.1 hjp2 rfl
  obtain ⟨ns1, hns1⟩ : ∃ ns1, ns.set jp { Y.n with kids := insAt Y.n.kids i.toNat X.n.id } = ns1 := ⟨_, rfl⟩
  have hids : ns1.map (·.id) = ns.map (·.id) := by
    rw [← hns1]
    apply List.ext_getElem (by simp)
    intro q h1 h2
    simp only [List.getElem_map]
    by_cases hq : q = jp
    · subst hq; simp [hYg]
    · rw [List.getElem_set_ne (by omega)]
  have hS1 := srtB_congr hS hids
  have hlen1 : ns1.length = ns.length := by rw [← hns1]; simp
  have hX1 : ∃ h : jn < ns1.length, ns1[jn]'h = X.n := ⟨by omega, by simp only [← hns1]; rw [List.getElem_set_ne (by omega), hXg]⟩
  have hatX1 : atI ns1 X.n.id = jn := by obtain ⟨h, e⟩ := hX1; rw [← e]; exact atI_some hS1.1 h rfl
  rw [hns1]
  have hi0 := spotI_le inL_sub hsp
  obtain ⟨q0, rfl⟩ : ∃ q : Nat, i = q := ⟨i.toNat, by omega⟩
  have hq0 : q0 ≤ Y.n.kids.length := by omega
  rw [Int.toNat_natCast] at hns1
  have HSP := Lib.hid hsp; have HF := Lib.hid hF; have HS := Lib.hid hS; have HS1 := Lib.hid hS1; have HR := Lib.hid hr; have HNS := Lib.hid hns; have HNS1 := Lib.hid hns1; have HX := Lib.hid hX; have HY := Lib.hid hY; have HO := Lib.hid hO; have HLEN := Lib.hid hlen; have HL1 := Lib.hid hlen1
  have HATX := Lib.hid hatX; have HATY := Lib.hid hatY; have HATX1 := Lib.hid hatX1; have HX1G := Lib.hid hX1; have HYG := Lib.hid (show ∃ h : jp < ns.length, ns[jp]'h = Y.n from ⟨hjp2, hYg⟩)
  have hp0 : (Y.n.id == 0) = false := beq_eq_false_iff_ne.2 (by omega)
  have hXr : InR X.n.id := by unfold InR; omega
  have hYr : InR Y.n.id := by unfold InR; omega
  rw [hlen] at hl
  unfold maxLen at hcm
  clear hsp hF hS hS1 hr hns hns1 hX hY hX1 hatX1 hO hXn hYn hXg hYg hids hatX hatY hlen hlen1
  have HB0 := Lib.hid ((KeepO.refl O w).alloc (.cells #[.int .i64 next, .slice (some ⟨g, 0, none⟩) ns.length cap] 24))
  have HM0 := Lib.hid (Blk.new w 24 #[.int .i64 next, .slice (some ⟨g, 0, none⟩) ns.length cap])
  have HO0 := Lib.hid (HO.out.below ((Below.refl w.heap.size w).alloc (Nat.le_refl _) (.cells #[.int .i64 next, .slice (some ⟨g, 0, none⟩) ns.length cap] 24)))
  have hgm : g ≠ w.heap.size := by omega
  go_enter Try.func85, Try.ntmps85
  go_wp2_with fail
  obtain ⟨u0, hu0⟩ : ∃ u : World, w.alloc (.cells #[.int .i64 next, .slice (some ⟨g, 0, none⟩) ns.length cap] 24) = u := ⟨_, rfl⟩
  rw [hu0] at HB0 HM0 HO0
  (try rw [hu0])
  have hbu : base ≤ u0.heap.size := by rw [← hu0]; simp; omega
  clear hu0
  have hj0 : (0 : Int) ≤ jn := by omega
  have hj1 : (jn : Int) < ns.length := by omega
  have hj2 : (0 : Int) ≤ jp := by omega
  have hj3 : (jp : Int) < ns.length := by omega
  have hq1 : (0 : Int) ≤ q0 := by omega
  have m0 := HM0.out.cell 0; have m1 := HM0.out.cell 1
  have hmlt := HM0.out.lt
  simp at m0 m1
  have HSPC : Hid (Calls Try.prog 120 #[.agg #[.int .i64 next, .slice (some ⟨g, 0, none⟩) ns.length cap], .int .i64 Y.n.id, .string role, .int .i64 a] u0 fun e w' => e = .returned (.int .i64 q0) ∧ Below u0.heap.size u0 w') := Lib.hid (by
    have := before_any (some ⟨g, 0, none⟩) cap ⟨next, ns⟩ u0 (fun b => base ≤ b ∧ b < u0.heap.size) (fun b hb => hb.2) (by rw [← HNS.out]; exact HO0.out.rowOf (fun b h1 h2 => ⟨h1, h2⟩)) (fam_of HS.out HF.out) HS.out HR.out (by show ns.length ≤ _; omega) jp HYG.out.choose Y.n HYG.out.choose_spec hk4 role a ha
    rw [HSP.out] at this
    exact this)
  go_wp2_with fail
  refine HSPC.out.mono ?_
  rintro _ w3 ⟨rfl, hb3⟩
  have HB3 := Lib.hid (HB0.out.below hb3)
  have HM3 := Lib.hid (HM0.out.below hb3 hmlt)
  have HO3 := Lib.hid (HO0.out.below hb3)
  have hbu3 := Nat.le_trans hbu hb3.size
  clear hb3 m0 m1 hmlt HO0 HB0 HM0 HSPC hbu
  have hbu := hbu3
  clear hbu3
  have m0 := HM3.out.cell 0; have m1 := HM3.out.cell 1
  have hmlt := HM3.out.lt
  simp at m0 m1
  have HAC : Hid (Calls Try.prog 72 #[.agg #[.int .i64 next, .slice (some ⟨g, 0, none⟩) ns.length cap], .int .i64 Y.n.id] w3 fun e w' => e = .returned (.int .i64 jp) ∧ Below w3.heap.size w3 w') := Lib.hid (by
    have := at_any (some ⟨g, 0, none⟩) cap next Y.n.id ns w3 (fun b => base ≤ b ∧ b < w3.heap.size) (fun b hb => hb.2) (by rw [← HNS.out]; exact HO3.out.rowOf (fun b h1 h2 => ⟨h1, h2⟩)) HS.out.1 (by omega)
    rw [HATY.out] at this
    exact this)
  go_wp2_with fail
  refine HAC.out.mono ?_
  rintro _ u ⟨rfl, hb3⟩
  have HBu := Lib.hid (HB3.out.below hb3)
  have HMu := Lib.hid (HM3.out.below hb3 hmlt)
  have HOu := Lib.hid (HO3.out.below hb3)
  have hbu3 := Nat.le_trans hbu hb3.size
  clear hb3 m0 m1 hmlt HO3 HB3 HM3 HAC hbu
  have hbu := hbu3
  clear hbu3
  have m0 := HMu.out.cell 0; have m1 := HMu.out.cell 1
  have hmlt := HMu.out.lt
  have c5 := HOu.out.cell (i := jp) (j := 5) hjp (by omega)
  rw [HY.out] at c5
  simp [LN.cells, nodeCellsA] at c5
  simp at m0 m1
  have HOL := Lib.hid (HOu.out.lists Y (by rw [← HY.out]; exact List.getElem_mem hjp))
  have HKR := Lib.hid (HOL.out.k.isRow (F := fun b => b < u.heap.size) (fun b _ h => h))
  obtain ⟨Ak, nk, hAk, hk1, hk2, hk3⟩ := HKR.out
  have HAK := Lib.hid hAk
  rw [hAk] at c5
  have HK3 := Lib.hid hk3
  unfold maxLen at hk2
  clear hAk hk3 HKR
  have hgu := (HOu.out.row.lt g rfl).2
  have hq2 : (q0 : Int) ≤ Y.n.kids.length := by omega
  have hq3 : (q0 : Int) ≤ nk := by omega
  obtain ⟨L1, hL1⟩ : ∃ L1, Y.n.kids.take q0 = L1 := ⟨_, rfl⟩
  obtain ⟨L2, hL2⟩ : ∃ L2, Y.n.kids.drop q0 = L2 := ⟨_, rfl⟩
  have HT1 := Lib.hid hL1; have HT2 := Lib.hid hL2
  have hl1 : L1.length = q0 := by rw [← hL1, List.length_take]; omega
  have hl2 : L2.length = Y.n.kids.length - q0 := by rw [← hL2, List.length_drop]
  have HN1 : Hid ((L1.map (Value.int .i64)).length = q0 * 1) := Lib.hid (by rw [List.length_map]; omega)
  have HN2 : Hid ((L2.map (Value.int .i64)).length = (Y.n.kids.length - q0) * 1) := Lib.hid (by rw [List.length_map]; omega)
  have HC1 : Hid (∀ ad, Ak = some ad → ∀ j z, (L1.map (Value.int .i64))[j]? = some z → u.cell? (ad.add j) = some z) := Lib.hid (fun ad e j z hz => HK3.out.cellsFrom intCells_len ad e j z (by
    rw [intCells_map]
    rw [← hL1, List.map_take, List.getElem?_take] at hz
    by_cases hji : j < q0
    · rw [if_pos hji] at hz; exact hz
    · rw [if_neg hji] at hz; cases hz))
  have hone : ∀ (L : List Int), ∀ z ∈ L.map (Value.int .i64), z.oneCell' = true := fun L z hz => by
    obtain ⟨_, _, rfl⟩ := List.mem_map.1 hz
    rfl
  have HONE := Lib.hid hone
  clear hL1 hL2 hl1 hl2 hone
  go_wp2_with (at_builtin; refine wpList_append_from _ rfl (.tmp 37) (.tmp 45) 35 rfl u.heap.size 3 Try.underlying35 int_info rfl (by omega) (.slice none 0 0) 0 [] rfl (World.ownsRow_nil _ _ _ _) Ak q0 nk (L1.map (Value.int .i64)) rfl HN1.out (fun e => by subst e; have := HK3.out.none_nil; rw [this] at hq0; simpa using hq0) HC1.out (HONE.out _) (by unfold maxLen; omega) (by omega) (Nat.le_refl _) ?_)
  intro A1 c1 v1 own1 hg1 _
  have HG1 : Hid (Below u.heap.size u v1) := Lib.hid ⟨hg1.os, hg1.tape, hg1.output, hg1.size, fun k hk => hg1.block k hk (by simp [Value.ownBlock])⟩
  (try rw [Nat.zero_add] at own1)
  (try rw [List.nil_append] at own1)
  have HW1 := Lib.hid own1
  clear own1 hg1
  have hsz1 := HG1.out.size
  have HQ : Hid (Blk (v1.alloc (.cells #[.int .i64 X.n.id] 3)) v1.heap.size 3 #[.int .i64 X.n.id]) := Lib.hid (Blk.new _ _ _)
  have HW1' : Hid ((v1.alloc (.cells #[.int .i64 X.n.id] 3)).ownsRow u.heap.size 3 1 (.slice A1 q0 c1) q0 (L1.map (Value.int .i64))) := Lib.hid (HW1.out.alloc _)
  go_wp2_with (at_builtin; refine wpList_append_from _ rfl (.tmp 47) (.tmp 49) 35 rfl u.heap.size 3 Try.underlying35 int_info rfl (by omega) (.slice A1 q0 c1) q0 (L1.map (Value.int .i64)) (by first | rfl | simp [Act.eval]) HW1'.out (some ⟨v1.heap.size, 0, none⟩) 1 1 [.int .i64 X.n.id] rfl rfl (by simp) (fun ad e => by cases e; exact news_cells HQ.out) (by simp [Value.oneCell']) (by unfold maxLen; omega) (by omega) (by simp; omega) ?_)
  intro A2 c2 v2 own2 hg2 _
  have HG2 : Hid (Below u.heap.size u v2) := Lib.hid ((HG1.out.alloc hsz1 _).grown hg2 (by simp; omega) (fun b e => (HW1.out.lt b e).1))
  have HW2 := Lib.hid own2
  clear own2 hg2 m0 m1 c5
  have hm2 := HMu.out.below HG2.out hmlt
  have m0 := hm2.cell 0; have m1 := hm2.cell 1
  have hmlt2 := hm2.lt
  simp at m0 m1
  have c5 : v2.cell? ⟨g, jp * 7 + 5, none⟩ = some (.slice Ak Y.n.kids.length nk) := by
    rw [HG2.out.cell (p := ⟨g, jp * 7 + 5, none⟩) hgu]
    have h := HOu.out.cell (i := jp) (j := 5) hjp (by omega)
    rw [HY.out] at h
    rw [h]
    simp [LN.cells, nodeCellsA, HAK.out]
  have hsz2 := HG2.out.size
  have HSRC : Hid (∀ ad, Ak = some ad → ∀ j z, (L2.map (Value.int .i64))[j]? = some z → v2.cell? ((ad.add q0).add j) = some z) := Lib.hid (fun ad e j z hz => by
    have h := HK3.out.cellsFrom intCells_len ad e (q0 + j) z (by rw [intCells_map]; rw [← HT2.out, List.map_drop, List.getElem?_drop] at hz; exact hz)
    rw [e] at HK3
    obtain ⟨b, off, e2, hbl⟩ := HK3.out.1 (by intro hn; rw [← HT2.out, hn] at hz; simp at hz)
    injection e2 with e2
    subst e2
    rw [add_some, add_some]
    rw [add_some] at h
    rw [HG2.out.cell (p := ⟨b, _, none⟩) hbl, Nat.add_assoc]
    exact h)
  have REST : Hid (∀ (A3 : Option Addr) (c3 : Nat) (w6 : World), w6.ownsRow u.heap.size 3 1 (.slice A3 (q0 + 1 + (Y.n.kids.length - q0)) c3) (q0 + 1 + (Y.n.kids.length - q0)) (L1.map (Value.int .i64) ++ [.int .i64 X.n.id] ++ L2.map (Value.int .i64)) → v2.grownBy w6 (Value.slice A2 (q0 + 1) c2).ownBlock →
      Below u.heap.size u w6 ∧ ∃ l1, OwnM (w6.setCell ⟨g, jp * 7 + 5, none⟩ (.slice A3 (q0 + 1 + (Y.n.kids.length - q0)) c3)) base (.slice (some ⟨g, 0, none⟩) ns.length cap) l1 ∧ l1.map LN.n = ns1 ∧ ∃ h : jn < l1.length, l1[jn] = X) := Lib.hid (fun A3 c3 w6 own6 hg6 => by
    have hbw6 : Below u.heap.size u w6 := HG2.out.grown hg6 hsz2 (fun b e => (HW2.out.lt b e).1)
    have hil : (insAt Y.n.kids q0 X.n.id).length = q0 + 1 + (Y.n.kids.length - q0) := by rw [insAt_len hq0]; omega
    have hown : OwnI w6 u.heap.size (.slice A3 (q0 + 1 + (Y.n.kids.length - q0)) c3) (insAt Y.n.kids q0 X.n.id) := by
      unfold OwnI
      rw [hil]
      have e : (insAt Y.n.kids q0 X.n.id).map (Value.int .i64) = L1.map (Value.int .i64) ++ [.int .i64 X.n.id] ++ L2.map (Value.int .i64) := by unfold insAt; rw [HT1.out, HT2.out]; simp
      rw [e]; exact own6
    refine ⟨hbw6, _, HOu.out.setList hjp (j := 5) (by omega) ⟨{ Y.n with kids := insAt Y.n.kids q0 X.n.id }, Y.p, .slice A3 (q0 + 1 + (Y.n.kids.length - q0)) c3, Y.r⟩ Y.k (.slice A3 (q0 + 1 + (Y.n.kids.length - q0)) c3) ⟨hbw6.os, hbw6.tape, hbw6.output, hbw6.size, fun k hk _ => hbw6.block k hk⟩ (by rw [HY.out]; simp [LN.blocks]) ?_ (by rw [HY.out]; rfl) (fun o => ?_) (fun _ => ?_) (fun b hb e => ?_), by rw [List.map_set, HNS.out, HNS1.out], by simpa using hjn, by rw [List.getElem_set_ne (by omega)]; exact HX.out⟩
    · rcases h : (Value.slice A3 (q0 + 1 + (Y.n.kids.length - q0)) c3).ownBlock with _ | b
      · exact .inr (.inl rfl)
      · exact .inr (.inr ⟨b, rfl, (hown.lt b h).1⟩)
    · rw [HY.out]; simp only [LN.blocks, List.count_cons, List.count_nil]; omega
    · exact ⟨own_keep HOL.out.p fun b e => hbw6.block b (HOL.out.lt b (by simp [LN.blocks, e])).2, hown.weaken (by omega), own_keep HOL.out.r fun b e => hbw6.block b (HOL.out.lt b (by simp [LN.blocks, e])).2⟩
    · subst e
      have hrow := HOu.out.row_ne (List.getElem_mem hjp) (b := b)
      rw [HY.out] at hrow
      simp only [LN.blocks, List.mem_cons, List.not_mem_nil, or_false] at hb hrow
      rcases hb with hb | hb | hb
      · exact hrow (.inl hb) rfl
      · have := (hown.lt b hb.symm).1; omega
      · exact hrow (.inr (.inr hb)) rfl)
  go_upto_region 9 with fail
  go_cut [12] (fun s12 wx => ∃ (A3 : Option Addr) (c3 : Nat), s12 = .slice A3 (q0 + 1 + (Y.n.kids.length - q0)) c3 ∧ wx.ownsRow u.heap.size 3 1 (.slice A3 (q0 + 1 + (Y.n.kids.length - q0)) c3) (q0 + 1 + (Y.n.kids.length - q0)) (L1.map (Value.int .i64) ++ [.int .i64 X.n.id] ++ L2.map (Value.int .i64)) ∧ v2.grownBy wx (Value.slice A2 (q0 + 1) c2).ownBlock)
  case first =>
    rcases Ak with _ | ⟨b, off, sp⟩
    · obtain rfl : q0 = 0 := by have := HK3.out.none_nil; rw [this] at hq0; simpa using hq0
      have hn0 : Y.n.kids.length = 0 := by rw [HK3.out.none_nil]; rfl
      have hnk : nk = 0 := by
        rcases HOL.out.k.2 with ⟨e, _⟩ | ⟨_, _, _, e, _⟩
        · rw [HAK.out] at e; injection e
        · rw [HAK.out] at e; cases e
      subst hnk
      have HLE : Hid (L2 = []) := Lib.hid (by rw [← HT2.out, HK3.out.none_nil]; rfl)
      have HN0 := Lib.hid hn0
      have HAPP : Hid (∀ ty, (Builtin.append_ #[35, 35] ty #[.slice A2 1 c2, .slice none 0 0]).run Try.prog v2 = .ok (.slice A2 1 c2) v2) := Lib.hid (fun ty => by
        obtain ⟨i0, hi0, _, hzs, _⟩ := info_parts int_info
        exact run_append_of_nil v2 u.heap.size 35 ty 3 i0 1 Try.underlying35 hi0 (.slice A2 1 c2) 1 _ (by simpa using HW2.out) 0)
      rw [hn0] at c5
      go_wp2_with (at_builtin; refine Lib.wpList_append_run _ rfl _ _ _ _ rfl _ _ rfl rfl _ _ (HAPP.out _) ?_)
      go_wp2_with fail
      go_meet
      case rel =>
        have h := HW2.out
        rw [HN0.out, HLE.out]
        exact ⟨A2, c2, rfl, by simpa using h, World.grownBy.refl _ _⟩
    · have hsp0 : sp = none := by
        rcases HOL.out.k.2 with ⟨e, _⟩ | ⟨g', _, _, e, _⟩
        · rw [HAK.out] at e; cases e
        · rw [HAK.out] at e; injection e with e; injection e with e; injection e with _ _ e
      subst hsp0
      have HN3 : Hid ((L2.map (Value.int .i64)).length = (Y.n.kids.length - q0) * 1) := HN2
      by_cases hqn : nk = q0
      · have hqn2 : Y.n.kids.length = q0 := by omega
        have HQ2 := Lib.hid hqn2
        have HLE : Hid (L2 = []) := Lib.hid (by rw [← HT2.out, ← hqn2, List.drop_length])
        have hnk2 : nk = Y.n.kids.length := by omega
        subst hnk2
        rw [hqn2] at c5
        clear hqn hqn2
        go_wp2_with (at_builtin; refine wpList_append_from _ rfl (.tmp 51) (.tmp 59) 35 rfl u.heap.size 3 Try.underlying35 int_info rfl (by omega) (.slice A2 (q0 + 1) c2) (q0 + 1) (L1.map (Value.int .i64) ++ [.int .i64 X.n.id]) (by first | rfl | simp [Act.eval]) HW2.out (some ⟨b, off, none⟩) 0 0 [] (by first | rfl | simp [Act.eval]) rfl (by simp) (fun ad e j z hz => by simp at hz) (by simp) (by unfold maxLen; omega) (by omega) (by omega) ?_)
        intro A3 c3 w6 own6 hg6 _
        have HOF := Lib.hid own6; have HGF := Lib.hid hg6
        clear own6 hg6
        go_wp2_with fail
        go_meet
        case rel =>
          have h := HOF.out
          rw [HQ2.out, HLE.out]
          exact ⟨A3, c3, by simp, by simpa using h, HGF.out⟩
      · have hqn' : ¬ (nk = q0) := hqn
        have hsa : ∀ ad, (some ⟨b, off + q0, none⟩ : Option Addr) = some ad → ∀ j z, (L2.map (Value.int .i64))[j]? = some z → v2.cell? (ad.add j) = some z := fun ad e j z hz => by
          injection e with e
          subst e
          have := HSRC.out _ rfl j z hz
          simpa [add_some] using this
        have HSA := Lib.hid hsa
        clear hsa
        go_wp2_with (at_builtin; refine wpList_append_from _ rfl (.tmp 51) (.tmp 59) 35 rfl u.heap.size 3 Try.underlying35 int_info rfl (by omega) (.slice A2 (q0 + 1) c2) (q0 + 1) (L1.map (Value.int .i64) ++ [.int .i64 X.n.id]) (by first | rfl | simp [Act.eval]) HW2.out (some ⟨b, off + q0, none⟩) (Y.n.kids.length - q0) (nk - q0) (L2.map (Value.int .i64)) (by first | rfl | simp [Act.eval]) HN3.out (by simp) HSA.out (HONE.out _) (by unfold maxLen; omega) (by omega) (by omega) ?_)
        intro A3 c3 w6 own6 hg6 _
        have HOF := Lib.hid own6; have HGF := Lib.hid hg6
        clear own6 hg6
        go_wp2_with fail
        go_meet
        case rel => exact ⟨_, _, rfl, by rw [List.append_assoc]; exact HOF.out, HGF.out⟩
  case rest =>
    obtain ⟨A3, c3, rfl, own6, hg6⟩ := hcut
    obtain ⟨hb6, l1, ho6, hm6, hjl, hxl⟩ := REST.out A3 c3 wc own6 hg6
    have HO6 := Lib.hid ho6; have HMAP := Lib.hid hm6; have HXL := Lib.hid hxl
    have c6 : wc.cell? ⟨g, jp * 7 + 5, none⟩ = some Y.k := by
      rw [hb6.cell (p := ⟨g, jp * 7 + 5, none⟩) hgu]
      have h := HOu.out.cell (i := jp) (j := 5) hjp (by omega)
      rw [HY.out] at h
      rw [h]
      simp [LN.cells, nodeCellsA]
    have z6 : wc.frozen? ⟨g, jp * 7 + 5, none⟩ = false := by
      rw [hb6.frozen (p := ⟨g, jp * 7 + 5, none⟩) hgu]; exact HOu.out.frozen _
    have HB6 := Lib.hid ((HBu.out.below hb6).set_ HOG (jp * 7 + 5) (.slice A3 (q0 + 1 + (Y.n.kids.length - q0)) c3))
    have HM6 := Lib.hid ((HMu.out.below hb6 hmlt).far (p := ⟨g, jp * 7 + 5, none⟩) (Ne.symm hgm) (.slice A3 (q0 + 1 + (Y.n.kids.length - q0)) c3))
    have hbu6 : base ≤ (wc.setCell ⟨g, jp * 7 + 5, none⟩ (.slice A3 (q0 + 1 + (Y.n.kids.length - q0)) c3)).heap.size := by have := hb6.size; simp; omega
    have hm6' := HMu.out.below hb6 hmlt
    clear m0 m1 c5
    have m0 := hm6'.cell 0; have m1 := hm6'.cell 1
    have hmlt6 := hm6'.lt
    simp at m0 m1
    have HWE : Hid (∃ z, z = wc.setCell ⟨g, jp * 7 + 5, none⟩ (.slice A3 (q0 + 1 + (Y.n.kids.length - q0)) c3)) := Lib.hid ⟨_, rfl⟩
    clear own6 hg6 hb6 ho6 hm6 hxl hm6'
    go_upto_region 11 with fail
    obtain ⟨u6, hu6⟩ := HWE.out
    rw [← hu6] at HO6 HB6 HM6 hbu6
    (try rw [← hu6])
    clear hu6 HWE c6 z6 m0 m1 hmlt6 HOu HBu HMu hmlt hbu HW2 HG2 REST HOL hgu
    have hbu := hbu6
    clear hbu6
    have m0 := HM6.out.cell 0; have m1 := HM6.out.cell 1
    have hmlt := HM6.out.lt
    simp at m0 m1
    have CP := Lib.hid (fun (d : Nat) (os : Array Obj) => Calls.regrown_of (w := u6) (d := d) (os := os) (by
      have ho := HO6.out.below (below_regrown u6 d os)
      have := at_any (some ⟨g, 0, none⟩) cap next X.n.id ns1 (Sort.grow (redrawn u6 d) os) (fun b => base ≤ b ∧ b < (Sort.grow (redrawn u6 d) os).heap.size) (fun b hb => hb.2) (by rw [← HMAP.out]; exact ho.rowOf (fun b h1 h2 => ⟨h1, h2⟩)) HS1.out.1 (by have := HL1.out; omega)
      rw [HATX1.out, HL1.out] at this; exact this))
    have k0 := cell_regrown m0; have k1 := cell_regrown m1
    clear m0 m1
    refine wp_region_quiet_below_tail 8 (by kernel_rfl) (by kernel_rfl) ?_
    simp only [List.take_succ_cons, List.take_zero, List.drop_succ_cons, List.drop_zero]
    repeat (first | go_big_quiet_step (exact CP.out _ _) | quiet_step (exact CP.out _ _))
    refine wpQuiet_nil ?_
    intro _ hw'
    obtain ⟨⟨dq, osq⟩, hw''⟩ := hw'
    subst hw''
    have hbr := below_regrown u6 dq osq
    have HBa := Lib.hid (HB6.out.below hbr)
    have HMa := Lib.hid (HM6.out.below hbr hmlt)
    have HOa := Lib.hid (HO6.out.below hbr)
    have hbu2 := Nat.le_trans hbu hbr.size
    clear k0 k1 CP hbr
    obtain ⟨xu6, hu⟩ : ∃ z : World, Sort.grow (redrawn u6 dq) osq = z := ⟨_, rfl⟩
    rw [hu] at HBa HMa HOa hbu2 ⊢
    clear hu hmlt hbu
    have hcc := HOa.out.cell (i := jn) (j := 2) hjl (by omega)
    have hzz := HOa.out.frozen (jn * 7 + 2)
    rw [HXL.out] at hcc
    simp [LN.cells, nodeCellsA] at hcc
    have hXL := HXL.out
    have HO8 := Lib.hid (HOa.out.setHead hjl (j := 2) (by omega) (.int .i64 Y.n.id) { X with n := { X.n with parent := Y.n.id } } (by rw [hXL]; rfl) (by rw [hXL]; exact ⟨rfl, rfl, rfl⟩) (by rw [hXL]; exact ⟨rfl, rfl, rfl⟩))
    have HB8 := Lib.hid (HBa.out.set_ HOG (jn * 7 + 2) (.int .i64 Y.n.id))
    have HM8 := Lib.hid (HMa.out.far (p := ⟨g, jn * 7 + 2, none⟩) (Ne.symm hgm) (.int .i64 Y.n.id))
    have hbu8 : base ≤ (xu6.setCell ⟨g, jn * 7 + 2, none⟩ (.int .i64 Y.n.id)).heap.size := by simpa using hbu2
    have HWE : Hid (∃ z, z = xu6.setCell ⟨g, jn * 7 + 2, none⟩ (.int .i64 Y.n.id)) := Lib.hid ⟨_, rfl⟩
    clear hXL hbu2
    go_upto_region 12 with fail
    obtain ⟨u8, hu8⟩ := HWE.out
    rw [← hu8] at HO8 HB8 HM8 hbu8
    (try rw [← hu8])
    clear hu8 HWE hcc hzz HBa HMa HOa
    have hbu := hbu8
    clear hbu8
    have HJ2 : Hid (∃ h : jn < (l1.set jn { X with n := { X.n with parent := Y.n.id } }).length, (l1.set jn { X with n := { X.n with parent := Y.n.id } })[jn] = { X with n := { X.n with parent := Y.n.id } }) := Lib.hid ⟨by simpa using hjl, by rw [List.getElem_set_self]⟩
    have HMAP2 : Hid ((l1.set jn { X with n := { X.n with parent := Y.n.id } }).map LN.n = ns1.set jn { X.n with parent := Y.n.id }) := Lib.hid (by rw [List.map_set, HMAP.out])
    obtain ⟨l2, hl2⟩ : ∃ l2, l1.set jn { X with n := { X.n with parent := Y.n.id } } = l2 := ⟨_, rfl⟩
    have HL2E : Hid (l1.set jn { X with n := { X.n with parent := Y.n.id } } = l2) := Lib.hid hl2
    rw [hl2] at HO8 HJ2 HMAP2
    clear hl2
    obtain ⟨hjl2, hxl2⟩ := HJ2.out
    have HXL2 := Lib.hid hxl2
    clear hxl2 HJ2
    have HIDS : Hid ((ns1.set jn { X.n with parent := Y.n.id }).map (·.id) = ns1.map (·.id) ∧ (ns1.set jn { X.n with parent := Y.n.id }).length = ns1.length) := Lib.hid ⟨by
      obtain ⟨h, e⟩ := HX1G.out
      apply List.ext_getElem (by simp)
      intro q h1 h2
      simp only [List.getElem_map]
      by_cases hq : q = jn
      · subst hq; simp [e]
      · rw [List.getElem_set_ne (by omega)], by simp⟩
    have HS2 := Lib.hid (srtB_congr HS1.out HIDS.out.1)
    have HATX2 : Hid (atI (ns1.set jn { X.n with parent := Y.n.id }) X.n.id = jn) := Lib.hid (atI_some HS2.out.1 (by rw [HIDS.out.2]; exact HX1G.out.choose) (by simp))
    have m0 := HM8.out.cell 0; have m1 := HM8.out.cell 1
    have hmlt := HM8.out.lt
    simp at m0 m1
    have CP := Lib.hid (fun (d : Nat) (os : Array Obj) => Calls.regrown_of (w := u8) (d := d) (os := os) (by
      have ho := HO8.out.below (below_regrown u8 d os)
      have := at_any (some ⟨g, 0, none⟩) cap next X.n.id (ns1.set jn { X.n with parent := Y.n.id }) (Sort.grow (redrawn u8 d) os) (fun b => base ≤ b ∧ b < (Sort.grow (redrawn u8 d) os).heap.size) (fun b hb => hb.2) (by rw [← HMAP2.out]; exact ho.rowOf (fun b h1 h2 => ⟨h1, h2⟩)) HS2.out.1 (by have := HIDS.out.2; have := HL1.out; omega)
      rw [HATX2.out, HIDS.out.2, HL1.out] at this; exact this))
    have k0 := cell_regrown m0; have k1 := cell_regrown m1
    clear m0 m1
    refine wp_region_quiet_below_tail 8 (by kernel_rfl) (by kernel_rfl) ?_
    simp only [List.take_succ_cons, List.take_zero, List.drop_succ_cons, List.drop_zero]
    repeat (first | go_big_quiet_step (exact CP.out _ _) | quiet_step (exact CP.out _ _))
    refine wpQuiet_nil ?_
    intro _ hw'
    obtain ⟨⟨dq, osq⟩, hw''⟩ := hw'
    subst hw''
    have hbr := below_regrown u8 dq osq
    have HBa := Lib.hid (HB8.out.below hbr)
    have HMa := Lib.hid (HM8.out.below hbr hmlt)
    have HOa := Lib.hid (HO8.out.below hbr)
    have hbu2 := Nat.le_trans hbu hbr.size
    clear k0 k1 CP hbr
    obtain ⟨xu8, hu⟩ : ∃ z : World, Sort.grow (redrawn u8 dq) osq = z := ⟨_, rfl⟩
    rw [hu] at HBa HMa HOa hbu2 ⊢
    clear hu hmlt hbu
    have hcc := HOa.out.cell (i := jn) (j := 3) hjl2 (by omega)
    have hzz := HOa.out.frozen (jn * 7 + 3)
    rw [HXL2.out] at hcc
    simp [LN.cells, nodeCellsA] at hcc
    have hXL := HXL2.out
    have HO9 := Lib.hid (HOa.out.setHead hjl2 (j := 3) (by omega) (.string role) { X with n := { X.n with parent := Y.n.id, role := role } } (by rw [hXL]; rfl) (by rw [hXL]; exact ⟨rfl, rfl, rfl⟩) (by rw [hXL]; exact ⟨rfl, rfl, rfl⟩))
    have HB9 := Lib.hid (HBa.out.set_ HOG (jn * 7 + 3) (.string role))
    clear hXL hbu2
    go_wp2
    go_end0
    exact ⟨rfl, _, HO9.out, by rw [List.map_set, HMAP2.out, List.set_set], HB9.out⟩
end Go.Proofs.Ytmafhaadcjgcbaa
end
section
namespace Go.Proofs.Ytmafhaadcjgcbaa
open Go Go.RowKit

set_option maxRecDepth 100000 in
set_option maxHeartbeats 4000000 in
theorem putRoot_any (next : Int) (v : Value) (l : List LN) (w : World) (base : Nat) (O : Nat → Prop) (hOO : ∀ b, some b ∈ (v.ownBlock :: allBlocks l) → O b) (hO : OwnM w base v l) (hbw : base ≤ w.heap.size) (hS : SrtB (l.map LN.n)) (hl : l.length ≤ 1048576)
    (jn : Nat) (hjn : jn < l.length) (X : LN) (hX : l[jn] = X) (role : ByteArray) (a : Int) :
    Calls Try.prog 85 #[.agg #[.int .i64 next, v], .int .i64 X.n.id, .int .i64 0, .string role, .int .i64 a] w fun e w' => e = .returned (.tuple #[]) ∧
      ∃ l', OwnM w' base v l' ∧ l'.map LN.n = (l.map LN.n).set jn { X.n with parent := 0, role := ⟨#[]⟩ } ∧ KeepO O w w' := by
  obtain ⟨g, cap, rfl, hnc, hcm, hgb, hgw⟩ := own_some hO.row (by omega)
  have HOG : O g := hOO g (by show some g ∈ some g :: _; exact List.mem_cons_self ..)
  obtain ⟨ns, hns⟩ : ∃ ns, l.map LN.n = ns := ⟨_, rfl⟩
  have hlen : l.length = ns.length := by rw [← hns]; simp
  have hXn : ns[jn]? = some X.n := by rw [← hns]; simp [hjn, hX]
  rw [hns] at hS ⊢
  rw [hlen] at hO ⊢
  have hjn2 : jn < ns.length := by omega
  have hXg : ns[jn] = X.n := by rw [List.getElem?_eq_getElem hjn2] at hXn; injection hXn
  have hXi := hS.2 jn hjn2
  rw [hXg] at hXi
  have hatX : atI ns X.n.id = jn := by rw [← hXg]; exact atI_some hS.1 hjn2 rfl
  have HS := Lib.hid hS; have HNS := Lib.hid hns; have HX := Lib.hid hX; have HO := Lib.hid hO; have HLEN := Lib.hid hlen
  have HATX := Lib.hid hatX; have HX1G := Lib.hid (show ∃ h : jn < ns.length, ns[jn]'h = X.n from ⟨hjn2, hXg⟩)
  have hp0 : ((0 : Int) == 0) = true := by decide
  have hXr : InR X.n.id := by unfold InR; omega
  rw [hlen] at hl
  unfold maxLen at hcm
  clear hS hns hX hO hXn hXg hatX hlen
  have HB0 := Lib.hid ((KeepO.refl O w).alloc (.cells #[.int .i64 next, .slice (some ⟨g, 0, none⟩) ns.length cap] 24))
  have HM0 := Lib.hid (Blk.new w 24 #[.int .i64 next, .slice (some ⟨g, 0, none⟩) ns.length cap])
  have HO0 := Lib.hid (HO.out.below ((Below.refl w.heap.size w).alloc (Nat.le_refl _) (.cells #[.int .i64 next, .slice (some ⟨g, 0, none⟩) ns.length cap] 24)))
  have hgm : g ≠ w.heap.size := by omega
  go_enter Try.func85, Try.ntmps85
  go_wp2_with fail
  obtain ⟨u0, hu0⟩ : ∃ u : World, w.alloc (.cells #[.int .i64 next, .slice (some ⟨g, 0, none⟩) ns.length cap] 24) = u := ⟨_, rfl⟩
  rw [hu0] at HB0 HM0 HO0
  (try rw [hu0])
  have hbu : base ≤ u0.heap.size := by rw [← hu0]; simp; omega
  clear hu0
  have hj0 : (0 : Int) ≤ jn := by omega
  have hj1 : (jn : Int) < ns.length := by omega
  have m0 := HM0.out.cell 0; have m1 := HM0.out.cell 1
  have hmlt := HM0.out.lt
  simp at m0 m1
  have CP := Lib.hid (fun (d : Nat) (os : Array Obj) => Calls.regrown_of (w := u0) (d := d) (os := os) (by
    have ho := HO0.out.below (below_regrown u0 d os)
    have := at_any (some ⟨g, 0, none⟩) cap next X.n.id (ns) (Sort.grow (redrawn u0 d) os) (fun b => base ≤ b ∧ b < (Sort.grow (redrawn u0 d) os).heap.size) (fun b hb => hb.2) (by rw [← HNS.out]; exact ho.rowOf (fun b h1 h2 => ⟨h1, h2⟩)) HS.out.1 (by omega)
    rw [HATX.out] at this; exact this))
  have k0 := cell_regrown m0; have k1 := cell_regrown m1
  clear m0 m1
  go_wp2_with fail
  refine wp_region_quiet_below_tail 7 (by kernel_rfl) (by kernel_rfl) ?_
  simp only [List.take_succ_cons, List.take_zero, List.drop_succ_cons, List.drop_zero]
  repeat (first | go_big_quiet_step (exact CP.out _ _) | quiet_step (exact CP.out _ _))
  refine wpQuiet_nil ?_
  intro _ hw'
  obtain ⟨⟨dq, osq⟩, hw''⟩ := hw'
  subst hw''
  have hbr := below_regrown u0 dq osq
  have HBa := Lib.hid (HB0.out.below hbr)
  have HMa := Lib.hid (HM0.out.below hbr hmlt)
  have HOa := Lib.hid (HO0.out.below hbr)
  have hbu2 := Nat.le_trans hbu hbr.size
  clear k0 k1 CP hbr
  obtain ⟨xu0, hu⟩ : ∃ z : World, Sort.grow (redrawn u0 dq) osq = z := ⟨_, rfl⟩
  rw [hu] at HBa HMa HOa hbu2 ⊢
  clear hu hmlt hbu
  have hcc := HOa.out.cell (i := jn) (j := 2) hjn (by omega)
  have hzz := HOa.out.frozen (jn * 7 + 2)
  rw [HX.out] at hcc
  simp [LN.cells, nodeCellsA] at hcc
  have hXL := HX.out
  have HO8 := Lib.hid (HOa.out.setHead hjn (j := 2) (by omega) (.int .i64 0) { X with n := { X.n with parent := 0 } } (by rw [hXL]; rfl) (by rw [hXL]; exact ⟨rfl, rfl, rfl⟩) (by rw [hXL]; exact ⟨rfl, rfl, rfl⟩))
  have HB8 := Lib.hid (HBa.out.set_ HOG (jn * 7 + 2) (.int .i64 0))
  have HM8 := Lib.hid (HMa.out.far (p := ⟨g, jn * 7 + 2, none⟩) (Ne.symm hgm) (.int .i64 0))
  have hbu8 : base ≤ (xu0.setCell ⟨g, jn * 7 + 2, none⟩ (.int .i64 0)).heap.size := by simpa using hbu2
  have HWE : Hid (∃ z, z = xu0.setCell ⟨g, jn * 7 + 2, none⟩ (.int .i64 0)) := Lib.hid ⟨_, rfl⟩
  clear hXL hbu2
  go_upto_region 3 with fail
  obtain ⟨u8, hu8⟩ := HWE.out
  rw [← hu8] at HO8 HB8 HM8 hbu8
  (try rw [← hu8])
  clear hu8 HWE hcc hzz HBa HMa HOa
  have hbu := hbu8
  clear hbu8
  have HJ2 : Hid (∃ h : jn < (l.set jn { X with n := { X.n with parent := 0 } }).length, (l.set jn { X with n := { X.n with parent := 0 } })[jn] = { X with n := { X.n with parent := 0 } }) := Lib.hid ⟨by simpa using hjn, by rw [List.getElem_set_self]⟩
  have HMAP2 : Hid ((l.set jn { X with n := { X.n with parent := 0 } }).map LN.n = ns.set jn { X.n with parent := 0 }) := Lib.hid (by rw [List.map_set, HNS.out])
  obtain ⟨l2, hl2⟩ : ∃ l2, l.set jn { X with n := { X.n with parent := 0 } } = l2 := ⟨_, rfl⟩
  rw [hl2] at HO8 HJ2 HMAP2
  clear hl2
  obtain ⟨hjl2, hxl2⟩ := HJ2.out
  have HXL2 := Lib.hid hxl2
  clear hxl2 HJ2
  have HIDS : Hid ((ns.set jn { X.n with parent := 0 }).map (·.id) = ns.map (·.id) ∧ (ns.set jn { X.n with parent := 0 }).length = ns.length) := Lib.hid ⟨by
    obtain ⟨h, e⟩ := HX1G.out
    apply List.ext_getElem (by simp)
    intro q h1 h2
    simp only [List.getElem_map]
    by_cases hq : q = jn
    · subst hq; simp [e]
    · rw [List.getElem_set_ne (by omega)], by simp⟩
  have HS2 := Lib.hid (srtB_congr HS.out HIDS.out.1)
  have HATX2 : Hid (atI (ns.set jn { X.n with parent := 0 }) X.n.id = jn) := Lib.hid (atI_some HS2.out.1 (by rw [HIDS.out.2]; exact HX1G.out.choose) (by simp))
  have m0 := HM8.out.cell 0; have m1 := HM8.out.cell 1
  have hmlt := HM8.out.lt
  simp at m0 m1
  have CP := Lib.hid (fun (d : Nat) (os : Array Obj) => Calls.regrown_of (w := u8) (d := d) (os := os) (by
    have ho := HO8.out.below (below_regrown u8 d os)
    have := at_any (some ⟨g, 0, none⟩) cap next X.n.id (ns.set jn { X.n with parent := 0 }) (Sort.grow (redrawn u8 d) os) (fun b => base ≤ b ∧ b < (Sort.grow (redrawn u8 d) os).heap.size) (fun b hb => hb.2) (by rw [← HMAP2.out]; exact ho.rowOf (fun b h1 h2 => ⟨h1, h2⟩)) HS2.out.1 (by have := HIDS.out.2; omega)
    rw [HATX2.out, HIDS.out.2] at this; exact this))
  have k0 := cell_regrown m0; have k1 := cell_regrown m1
  clear m0 m1
  refine wp_region_quiet_below_tail 7 (by kernel_rfl) (by kernel_rfl) ?_
  simp only [List.take_succ_cons, List.take_zero, List.drop_succ_cons, List.drop_zero]
  repeat (first | go_big_quiet_step (exact CP.out _ _) | quiet_step (exact CP.out _ _))
  refine wpQuiet_nil ?_
  intro _ hw'
  obtain ⟨⟨dq, osq⟩, hw''⟩ := hw'
  subst hw''
  have hbr := below_regrown u8 dq osq
  have HBa := Lib.hid (HB8.out.below hbr)
  have HMa := Lib.hid (HM8.out.below hbr hmlt)
  have HOa := Lib.hid (HO8.out.below hbr)
  have hbu2 := Nat.le_trans hbu hbr.size
  clear k0 k1 CP hbr
  obtain ⟨xu8, hu⟩ : ∃ z : World, Sort.grow (redrawn u8 dq) osq = z := ⟨_, rfl⟩
  rw [hu] at HBa HMa HOa hbu2 ⊢
  clear hu hmlt hbu
  have hcc := HOa.out.cell (i := jn) (j := 3) hjl2 (by omega)
  have hzz := HOa.out.frozen (jn * 7 + 3)
  rw [HXL2.out] at hcc
  simp [LN.cells, nodeCellsA] at hcc
  have hXL := HXL2.out
  have HO9 := Lib.hid (HOa.out.setHead hjl2 (j := 3) (by omega) (.string ⟨#[]⟩) { X with n := { X.n with parent := 0, role := ⟨#[]⟩ } } (by rw [hXL]; rfl) (by rw [hXL]; exact ⟨rfl, rfl, rfl⟩) (by rw [hXL]; exact ⟨rfl, rfl, rfl⟩))
  have HB9 := Lib.hid (HBa.out.set_ HOG (jn * 7 + 3) (.string ⟨#[]⟩))
  clear hXL hbu2
  go_wp2
  refine bodyPost_ret (results_none rfl _ _ _) rfl ?_
  exact ⟨rfl, _, HO9.out, by rw [List.map_set, HMAP2.out, List.set_set], HB9.out⟩
end Go.Proofs.Ytmafhaadcjgcbaa
end
section
/- a node that hangs nowhere is put at a place, among the roots or below another: hang, put -/
namespace Go.Proofs.Ytmafhaadcjgcbaa
open Go Go.RowKit

theorem nodeOf_set {nx : Int} {ns : List ANode} (h : SrtB ns) {j : Nat} (hj : j < ns.length) {x : ANode} (hi : x.id = ns[j].id) {y : ANode} (hy : y ∈ ns) (hne : y.id ≠ ns[j].id) : nodeOf ⟨nx, ns.set j x⟩ y.id = y := by
  have h2 : SrtB (ns.set j x) := srtB_congr h (by
    rw [List.map_set, hi]
    apply List.ext_getElem (by simp)
    intro q h1 h2
    by_cases hq : q = j
    · subst hq; simp
    · rw [List.getElem_set_ne (by omega)])
  refine nodeOf_srt (m := ⟨nx, ns.set j x⟩) h2 ?_
  obtain ⟨i, hi2, rfl⟩ := List.getElem_of_mem hy
  have hij : i ≠ j := fun e => hne (by subst e; rfl)
  exact List.mem_iff_getElem.2 ⟨i, by simpa using hi2, by rw [List.getElem_set_ne (Ne.symm hij)]⟩
theorem inL_set {nx : Int} {ns : List ANode} (h : SrtB ns) (hc : Closed ns) {j : Nat} (hj : j < ns.length) {x : ANode} (hi : x.id = ns[j].id) {y : ANode} (hy : y ∈ ns) (hno : ns[j].id ∉ y.kids) (role : ByteArray) : inL ⟨nx, ns.set j x⟩ y role = inL ⟨nx, ns⟩ y role := by
  unfold inL
  apply List.filter_congr
  intro k hk
  obtain ⟨z, hz, e⟩ := List.mem_map.1 (hc y hy k hk)
  have hne : z.id ≠ ns[j].id := fun e2 => hno (by rw [← e2, e]; exact hk)
  unfold roleB
  rw [← e, nodeOf_set h hj hi hz hne, nodeOf_srt (m := ⟨nx, ns⟩) h hz]
/-- where the place is -/
def PlaceAt (nx : Int) (ns : List ANode) (id p : Int) (role : ByteArray) (a : Int) (i : Int) : Prop := p = 0 ∨ ∃ y ∈ ns, y.id = p ∧ y.id ≠ id ∧ y.kids.length ≤ 4096 ∧ spotI y.kids (inL ⟨nx, ns⟩ y role) a = some i
section
variable (next : Int) (v : Value) (l : List LN) (w : World) (base : Nat) (O : Nat → Prop)
theorem hang_any (hOO : ∀ b, some b ∈ (v.ownBlock :: allBlocks l) → O b) (hO : OwnM w base v l) (hbw : base ≤ w.heap.size) (hS : SrtB (l.map LN.n)) (hr : ∀ x ∈ l.map LN.n, ∀ k ∈ x.kids, InR k) (hl : l.length ≤ 1048576) (hc : Closed (l.map LN.n))
    (x : ANode) (hx : x ∈ l.map LN.n) (hno : ∀ y ∈ l.map LN.n, x.id ∉ y.kids) (p : Int) (role : ByteArray) (a : Int) (ha : InR a) (i : Int) (hp : PlaceAt next (l.map LN.n) x.id p role a i) :
    Calls Try.prog 83 #[.agg #[.int .i64 next, v], .int .i64 x.id, .int .i64 p, .string role, .int .i64 a] w fun e w' => e = .returned (.tuple #[]) ∧
      ∃ l', OwnM w' base v l' ∧ l'.map LN.n = placeN (l.map LN.n) x.id p role i.toNat ∧ KeepO O w w' := by
  obtain ⟨X, hX, rfl⟩ := List.mem_map.1 hx
  obtain ⟨jn, hjn, rfl⟩ := List.getElem_of_mem hX
  have hjn2 : jn < (l.map LN.n).length := by simpa using hjn
  have eX : (l.map LN.n)[jn] = l[jn].n := List.getElem_map _
  rcases hp with rfl | ⟨y, hy, rfl, hne, hk4, hsp⟩
  · refine (hangRoot_any next v l w base O hOO hO hbw hS hl jn hjn _ rfl role a).mono fun e w' ⟨h1, l', h2, h3, h4⟩ => ⟨h1, l', h2, ?_, h4⟩
    have := placeN_root hS hjn2 role i.toNat
    rw [eX] at this
    rw [h3, this]
  · obtain ⟨Y, hY, rfl⟩ := List.mem_map.1 hy
    obtain ⟨jp, hjp, rfl⟩ := List.getElem_of_mem hY
    have hjp2 : jp < (l.map LN.n).length := by simpa using hjp
    have eY : (l.map LN.n)[jp] = l[jp].n := List.getElem_map _
    have hjj : jp ≠ jn := fun e => hne (by subst e; rfl)
    have hsp2 := hsp
    rw [← inL_set (x := { l[jn].n with parent := l[jp].n.id, role := role }) hS hc hjn2 (by rw [eX]) hy (by rw [eX]; exact hno _ hy)] at hsp2
    have hcs := (closed_set hc hjn2 (x := { l[jn].n with parent := l[jp].n.id, role := role }) (by rw [eX]) (fun k hk => hc _ hx k hk)).1
    refine (hangKid_any next v l w base O hOO hO hbw hS hr hl jn hjn _ rfl jp hjp _ rfl hjj role a ha hcs i hsp2 hk4).mono fun e w' ⟨h1, l', h2, h3, h4⟩ => ⟨h1, l', h2, ?_, h4⟩
    have := placeN_kid hS hjn2 hjp2 hjj role i.toNat
    rw [eX, eY] at this
    rw [h3, this]
theorem put_any (hOO : ∀ b, some b ∈ (v.ownBlock :: allBlocks l) → O b) (hO : OwnM w base v l) (hbw : base ≤ w.heap.size) (hS : SrtB (l.map LN.n)) (hr : ∀ x ∈ l.map LN.n, ∀ k ∈ x.kids, InR k) (hl : l.length ≤ 1048576) (hc : Closed (l.map LN.n))
    (x : ANode) (hx : x ∈ l.map LN.n) (p : Int) (role : ByteArray) (a : Int) (ha : InR a) (i : Int) (hp : PlaceAt next (l.map LN.n) x.id p role a i) (hr0 : p = 0 → role.size = 0) :
    Calls Try.prog 85 #[.agg #[.int .i64 next, v], .int .i64 x.id, .int .i64 p, .string role, .int .i64 a] w fun e w' => e = .returned (.tuple #[]) ∧
      ∃ l', OwnM w' base v l' ∧ l'.map LN.n = placeN (l.map LN.n) x.id p role i.toNat ∧ KeepO O w w' := by
  obtain ⟨X, hX, rfl⟩ := List.mem_map.1 hx
  obtain ⟨jn, hjn, rfl⟩ := List.getElem_of_mem hX
  have hjn2 : jn < (l.map LN.n).length := by simpa using hjn
  have eX : (l.map LN.n)[jn] = l[jn].n := List.getElem_map _
  rcases hp with rfl | ⟨y, hy, rfl, hne, hk4, hsp⟩
  · have hrole : role = ⟨#[]⟩ := by
      have h0 := hr0 rfl
      cases role with
      | mk d =>
        have : d.size = 0 := h0
        rw [Array.eq_empty_of_size_eq_zero this]
    refine (putRoot_any next v l w base O hOO hO hbw hS hl jn hjn _ rfl role a).mono fun e w' ⟨h1, l', h2, h3, h4⟩ => ⟨h1, l', h2, ?_, h4⟩
    have := placeN_root hS hjn2 role i.toNat
    rw [eX] at this
    rw [h3, ← this, hrole]
  · obtain ⟨Y, hY, rfl⟩ := List.mem_map.1 hy
    obtain ⟨jp, hjp, rfl⟩ := List.getElem_of_mem hY
    have hjp2 : jp < (l.map LN.n).length := by simpa using hjp
    have eY : (l.map LN.n)[jp] = l[jp].n := List.getElem_map _
    have hjj : jp ≠ jn := fun e => hne (by subst e; rfl)
    refine (putKid_any next v l w base O hOO hO hbw hS hr hl jn hjn _ rfl jp hjp _ rfl hjj role a ha hc i hsp hk4).mono fun e w' ⟨h1, l', h2, h3, h4⟩ => ⟨h1, l', h2, ?_, h4⟩
    have := placeN_kid hS hjn2 hjp2 hjj role i.toNat
    rw [eX, eY] at this
    rw [h3, ← this, List.set_comm _ _ hjj]
end
end Go.Proofs.Ytmafhaadcjgcbaa
end
section
/- a model with a node taken out; what bars a move, and what comes of it: in plain Lean -/
namespace Go.Proofs.Ytmafhaadcjgcbaa
open Go Go.RowKit

theorem contains_any (A : Option Addr) (c : Nat) (l : List Int) (x : Int) (w : World) (F : Nat → Prop) (h : RowOf 1 EInt w F A l) (hl : l.length ≤ 9223372036854775807) :
    Calls Try.prog 97 #[.slice A l.length c, .int .i64 x] w fun e w' => e = .returned (.bool (l.contains x)) ∧ Below w.heap.size w w' := by
  cases l with
  | nil =>
    refine (Try.slices_Contains_int_empty A c x w).mono ?_
    rintro e w' ⟨rfl, rfl⟩
    exact ⟨rfl, Below.refl _ _⟩
  | cons y r =>
    obtain ⟨b, off, rfl, _⟩ := h.1 (by simp)
    refine (Try.slices_Contains_int b off (y :: r).length c (y :: r) x w (Nat.le_refl _) hl (fun j hj => ?_)).mono ?_
    · obtain ⟨b', off', e, _, h2⟩ := int_at h hj
      injection e with e
      injection e with e1 e2
      subst e1; subst e2
      rw [h2]
      congr 2
      rw [List.getD_eq_getElem?_getD, List.getElem?_eq_getElem hj]; rfl
    · rintro e w' ⟨rfl, rfl⟩
      exact ⟨by rw [List.take_length], Below.refl _ _⟩

/-- the model with a node taken out -/
def mu (m : AModel) (x : ANode) : AModel := ⟨m.next, unhangN m.nodes x.parent x.id⟩
theorem idAt_congr {m m' : AModel} (h : ∀ i, IdAt m i) (hn : m'.next = m.next) (e : m'.nodes.map (·.id) = m.nodes.map (·.id)) : ∀ i, IdAt m' i := by
  have hl : m'.nodes.length = m.nodes.length := by have := congrArg List.length e; simpa using this
  have hi : ∀ i (h1 : i < m'.nodes.length) (h2 : i < m.nodes.length), m'.nodes[i].id = m.nodes[i].id := fun i h1 h2 => by
    have := congrArg (fun x => x[i]?) e
    simpa [h1, h2] using this
  intro i hi1
  have h1 := h i (by omega)
  rw [hi i hi1 (by omega), hn]
  refine ⟨h1.1, h1.2.1, fun h0 => ?_⟩
  rw [hi (i - 1) (by omega) (by omega)]
  exact h1.2.2 h0
section
variable {m : AModel} {x : ANode}
theorem mu_mem {y : ANode} (hy : y ∈ (mu m x).nodes) : ∃ z ∈ m.nodes, y.id = z.id ∧ y.parent = z.parent ∧ y.role = z.role ∧ y.concept = z.concept ∧ y.props = z.props ∧ y.refs = z.refs ∧ (∀ k ∈ y.kids, k ∈ z.kids) ∧ y.kids.length ≤ z.kids.length ∧ (z.id = x.parent → x.id ∉ y.kids) := by
  obtain ⟨z, hz, rfl⟩ := List.mem_map.1 hy
  refine ⟨z, hz, ?_⟩
  by_cases h : z.id = x.parent
  · rw [if_pos h]
    refine ⟨rfl, rfl, rfl, rfl, rfl, rfl, fun k hk => (List.mem_filter.1 hk).1, List.length_filter_le _ _, fun _ hk => ?_⟩
    have := (List.mem_filter.1 hk).2
    simp at this
  · rw [if_neg h]
    exact ⟨rfl, rfl, rfl, rfl, rfl, rfl, fun k hk => hk, Nat.le_refl _, fun e => absurd e h⟩
theorem mu_node {z : ANode} (hz : z ∈ m.nodes) : ∃ y ∈ (mu m x).nodes, y.id = z.id ∧ y.parent = z.parent := by
  refine ⟨_, List.mem_map.2 ⟨z, hz, rfl⟩, ?_⟩
  by_cases h : z.id = x.parent
  · rw [if_pos h]; exact ⟨rfl, rfl⟩
  · rw [if_neg h]; exact ⟨rfl, rfl⟩
theorem mu_ids2 (m : AModel) (x : ANode) : (mu m x).nodes.map (·.id) = m.nodes.map (·.id) := unhangN_ids _ _ _
theorem mu_len (m : AModel) (x : ANode) : (mu m x).nodes.length = m.nodes.length := unhangN_len _ _ _
theorem mu_srt (h : CheckM m) : SrtB (mu m x).nodes := unhangN_srt h.1.srtB
theorem mu_ids (h : CheckM m) : ∀ i, IdAt (mu m x) i := idAt_congr h.1.2 rfl (mu_ids2 m x)
theorem mu_closed (h : CheckM m) : Closed (mu m x).nodes := fun y hy k hk => by
  obtain ⟨z, hz, _, _, _, _, _, _, hs, _⟩ := mu_mem hy
  obtain ⟨u, hu, e, _⟩ := h.tree.kid hz (hs k hk)
  rw [mu_ids2]
  exact List.mem_map.2 ⟨u, hu, e⟩
theorem mu_fam (h : CheckM m) : Fam (mu m x) := fam_of (mu_srt h) (mu_closed h)
theorem mu_nokid (h : CheckM m) (hx : x ∈ m.nodes) : ∀ y ∈ (mu m x).nodes, x.id ∉ y.kids := fun y hy hk => by
  obtain ⟨z, hz, _, _, _, _, _, _, hs, _, hno⟩ := mu_mem hy
  obtain ⟨u, hu, e, e2, _⟩ := h.tree.kid hz (hs _ hk)
  have := node_inj h.1.2 hu hx e
  subst this
  exact hno e2.symm hk
theorem mu_dep (h : CheckM m) {d : Nat} {id : Int} (hd : Dep m d id) : Dep (mu m x) d id := by
  induction hd with
  | root z hz h0 =>
    obtain ⟨y, hy, e1, e2⟩ := mu_node (x := x) hz
    rw [← e1]; exact .root y hy (by rw [e2]; exact h0)
  | kid d z hz hp _ ih =>
    obtain ⟨y, hy, e1, e2⟩ := mu_node (x := x) hz
    rw [← e1]; exact .kid d y hy (by rw [e2]; exact hp) (by rw [e2]; exact ih)
theorem check_kids4 (h : CheckM m) : ∀ y ∈ m.nodes, y.kids.length ≤ 4096 := fun y hy => Nat.le_trans (h.2.1 y hy).2.2.2.1 h.1.1.2.2
theorem mu_kids4 (h : CheckM m) : ∀ y ∈ (mu m x).nodes, y.kids.length ≤ 4096 := fun y hy => by
  obtain ⟨z, hz, _, _, _, _, _, _, _, h1, _⟩ := mu_mem hy
  exact Nat.le_trans h1 (check_kids4 h z hz)
theorem mu_kidsR (hr : ∀ y ∈ m.nodes, ∀ k ∈ y.kids, InR k) : ∀ y ∈ (mu m x).nodes, ∀ k ∈ y.kids, InR k := fun y hy k hk => by
  obtain ⟨z, hz, _, _, _, _, _, _, hs, _, _⟩ := mu_mem hy
  exact hr z hz k (hs k hk)
theorem mu_parR (hr : ∀ y ∈ m.nodes, InR y.parent) : ∀ y ∈ (mu m x).nodes, InR y.parent := fun y hy => by
  obtain ⟨z, hz, _, e, _⟩ := mu_mem hy
  rw [e]; exact hr z hz
theorem check_parent (h : CheckM m) (hx : x ∈ m.nodes) : x.parent = 0 ∨ ∃ y ∈ m.nodes, x.parent = y.id := by
  rcases h.2.2.2.2 x hx with h1 | ⟨y, hy, e, _⟩
  · exact .inl h1
  · exact .inr ⟨y, hy, e.symm⟩
end
/-- where the place is, among its parent's kids -/
def iOf (m : AModel) (p : Int) (role : ByteArray) (a : Int) : Int := (spotI (nodeOf m p).kids (inL m (nodeOf m p) role) a).getD 0
theorem place_of {m : AModel} (hFm : Fam m) (h4 : ∀ y ∈ m.nodes, y.kids.length ≤ 4096) {id p : Int} (hne : p ≠ id) (hp : p = 0 ∨ ∃ y ∈ m.nodes, y.id = p) {role : ByteArray} {a d high : Int} (hg : goalE m p role a d high = 0) : PlaceAt m.next m.nodes id p role a (iOf m p role a) := by
  rcases hp with h0 | ⟨y, hy, rfl⟩
  · exact .inl h0
  · by_cases h0 : y.id = 0
    · exact .inl h0
    · refine .inr ⟨y, hy, rfl, hne, h4 y hy, ?_⟩
      rw [goalE_kid hFm hy h0] at hg
      have e : nodeOf m y.id = y := hFm.1 y hy
      unfold iOf
      rw [e]
      cases hs : spotI y.kids (inL m y role) a with
      | none => rw [hs, kidE_none] at hg; cases hg
      | some i => rfl
open Classical in
/-- what bars a move -/
noncomputable def moveE (m : AModel) (id p : Int) (role : ByteArray) (a : Int) : Int :=
  if ¬ CheckM m then 29 else if p ≠ 0 ∧ wordA role = false then 2 else if atI m.nodes id < 0 ∨ (p ≠ 0 ∧ atI m.nodes p < 0) then 20
  else if p = id ∨ p ∈ belowL m id then 21 else goalE (mu m (nodeOf m id)) p role a (dN m p) (heightN m id : Nat)
noncomputable def moveL (m : AModel) (id p : Int) (role : ByteArray) (a : Int) : List ANode := placeN (mu m (nodeOf m id)).nodes id p role (iOf (mu m (nodeOf m id)) p role a).toNat
section
variable {m : AModel} {id p a : Int} {role : ByteArray}
open Classical in
theorem moveE_check (h : ¬ CheckM m) : moveE m id p role a = 29 := if_pos h
open Classical in
theorem moveE_word (h : CheckM m) (hp : p ≠ 0) (hw : wordA role = false) : moveE m id p role a = 2 := by unfold moveE; rw [if_neg (fun e => e h), if_pos ⟨hp, hw⟩]
open Classical in
theorem moveE_node (h : CheckM m) (hw : p ≠ 0 → wordA role = true) (hn : atI m.nodes id < 0 ∨ (p ≠ 0 ∧ atI m.nodes p < 0)) : moveE m id p role a = 20 := by
  unfold moveE; rw [if_neg (fun e => e h), if_neg (fun e => by rw [hw e.1] at e; exact absurd e.2 (by simp)), if_pos hn]
open Classical in
theorem moveE_loop (h : CheckM m) (hw : p ≠ 0 → wordA role = true) (hn : ¬ (atI m.nodes id < 0 ∨ (p ≠ 0 ∧ atI m.nodes p < 0))) (hl : p = id ∨ p ∈ belowL m id) : moveE m id p role a = 21 := by
  unfold moveE; rw [if_neg (fun e => e h), if_neg (fun e => by rw [hw e.1] at e; exact absurd e.2 (by simp)), if_neg hn, if_pos hl]
open Classical in
theorem moveE_goal (h : CheckM m) (hw : p ≠ 0 → wordA role = true) (hn : ¬ (atI m.nodes id < 0 ∨ (p ≠ 0 ∧ atI m.nodes p < 0))) (hl : ¬ (p = id ∨ p ∈ belowL m id)) : moveE m id p role a = goalE (mu m (nodeOf m id)) p role a (dN m p) (heightN m id : Nat) := by
  unfold moveE; rw [if_neg (fun e => e h), if_neg (fun e => by rw [hw e.1] at e; exact absurd e.2 (by simp)), if_neg hn, if_neg hl]
end
/-- a model and an error as they are answered -/
def ResAs (w' : World) (base : Nat) (next E : Int) (ns : List ANode) (v : Value) : Prop :=
  (E ≠ 0 ∧ v = .tuple #[.agg #[.int .i64 0, .slice none 0 0], .int .i64 E]) ∨
  (E = 0 ∧ ∃ vl, v = .tuple #[.agg #[.int .i64 next, vl], .int .i64 0] ∧ IsRow 7 ENode w' (fun b => base ≤ b ∧ b < w'.heap.size) vl ns)
end Go.Proofs.Ytmafhaadcjgcbaa
end
