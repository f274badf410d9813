import Derived.Test.YtpkapommekkbcaaDoorSheetP
import Derived.Test.YtpkapommekkbcaaDoorRegS
import Derived.Test.YtpkapommekkbcaaDoorAFindR
set_option linter.unusedSimpArgs false
set_option linter.unusedVariables false
/- topiarylaw03.great: has a model more than is gone through here? -/
namespace Go.Proofs.YtpkapommekkbcaaDoor
open Go Go.RowKit

/-- what a node counts -/
def gN (x : ANode) : Nat := min 1000 (x.props.length + x.refs.length + x.kids.length / 8)
def gTo (l : List ANode) (i : Nat) : Nat := (l.take i).foldl (fun a x => a + 1 + gN x) 0
theorem gTo_next {l : List ANode} {i : Nat} (hi : i < l.length) : gTo l (i + 1) = gTo l i + 1 + gN l[i] := by
  unfold gTo
  rw [List.take_succ_eq_append_getElem hi, List.foldl_append]; rfl
theorem gTo_le (l : List ANode) (i : Nat) : gTo l i ≤ i * 1001 := by
  induction i with
  | zero => simp [gTo]
  | succ i ih =>
    by_cases h : i < l.length
    · rw [gTo_next h]
      have : gN l[i] ≤ 1000 := Nat.min_le_left _ _
      omega
    · have : gTo l (i + 1) = gTo l i := by unfold gTo; rw [List.take_of_length_le (by omega), List.take_of_length_le (by omega)]
      omega
theorem gTo_ge {l : List ANode} {i : Nat} (h : i ≤ l.length) : i ≤ gTo l i := by
  induction i with
  | zero => omega
  | succ i ih => rw [gTo_next (by omega)]; have := ih (by omega); omega
theorem gTo_mono {l : List ANode} {i j : Nat} (h : i ≤ j) (hj : j ≤ l.length) : gTo l i ≤ gTo l j := by
  induction j with
  | zero => have : i = 0 := by omega
            rw [this]; omega
  | succ j ih =>
    rcases Nat.lt_or_eq_of_le h with h1 | h1
    · rw [gTo_next (by omega)]; have := ih (by omega) (by omega); omega
    · rw [h1]; omega
def greatM (m : AModel) : Bool := decide (600 < gTo m.nodes (min m.nodes.length 1000))
theorem great_few {m : AModel} (h : greatM m = false) : m.nodes.length ≤ 600 ∧ ∀ x ∈ m.nodes, x.props.length + x.refs.length ≤ 600 := by
  have h1 : ¬ 600 < gTo m.nodes (min m.nodes.length 1000) := of_decide_eq_false h
  have h2 := gTo_ge (l := m.nodes) (i := min m.nodes.length 1000) (Nat.min_le_left _ _)
  have h3 : m.nodes.length ≤ 600 := by omega
  have h4 : min m.nodes.length 1000 = m.nodes.length := by omega
  rw [h4] at h1
  refine ⟨h3, fun x hx => ?_⟩
  obtain ⟨i, hi, rfl⟩ := List.getElem_of_mem hx
  have h5 := gTo_mono (l := m.nodes) (i := i + 1) (j := m.nodes.length) hi (Nat.le_refl _)
  rw [gTo_next hi] at h5
  have h6 : gN m.nodes[i] ≤ 600 := by omega
  unfold gN at h6
  omega

set_option maxRecDepth 100000 in
set_option maxHeartbeats 4000000 in
theorem great_any (A : Option Addr) (c : Nat) (m : AModel) (w : World) (F : Nat → Prop) (hF : ∀ b, F b → b < w.heap.size) (h : RowOf 7 ENode w F A m.nodes) (hz' : ∀ x ∈ m.nodes, LensOK x) (hl : m.nodes.length ≤ 9223372036854775807) :
    Calls Tryd.prog 4 #[.agg #[.int .i64 m.next, .slice A m.nodes.length c]] w fun e w' => e = .returned (.bool (greatM m)) ∧ Below w.heap.size w w' := by
  obtain ⟨u0, hu0⟩ : ∃ u : World, w.alloc (.cells #[.int .i64 m.next, .slice A m.nodes.length c] 24) = u := ⟨_, rfl⟩
  have HB0 : Hid (Below w.heap.size w u0) := Lib.hid (by rw [← hu0]; exact (Below.refl _ _).alloc (Nat.le_refl _) _)
  have HM0 : Hid (Blk u0 w.heap.size 24 #[.int .i64 m.next, .slice A m.nodes.length c]) := Lib.hid (by rw [← hu0]; exact Blk.new _ _ _)
  have HU0 := Lib.hid hu0
  have HROW : Hid (∀ V, Below w.heap.size w V → RowOf 7 ENode V F A m.nodes) := Lib.hid (fun V hb => h.keep ENode.stays (Keep.below hb hF) (fun _ h => h))
  have HM1 : Hid (∀ V, Below u0.heap.size u0 V → V.cell? ⟨w.heap.size, 1, none⟩ = some (.slice A m.nodes.length c)) := Lib.hid (fun V hb => by
    have a := (HM0.out.below hb HM0.out.lt).cell 1
    simp at a
    exact a)
  have HGL := Lib.hid (gTo_le m.nodes)
  obtain ⟨n, hn⟩ : ∃ n, m.nodes.length = n := ⟨_, rfl⟩
  have HN := Lib.hid hn
  have HGM : Hid (greatM m = decide (600 < gTo m.nodes (min n 1000))) := Lib.hid (by unfold greatM; rw [hn])
  have HLO := Lib.hid hz'
  rw [hn] at hl HM1 ⊢
  clear hu0 h hz' hn
  go_enter Tryd.func4, Tryd.ntmps4
  go_upto_region 1 with fail
  rw [← HN.out, HU0.out, HN.out]
  go_upto_region 3 with fail
  go_loopg [3, 4] n (fun g s3 s4 wx => ∃ i : Nat, s3 = .int .i64 (gTo m.nodes i) ∧ s4 = .int .i64 i ∧ g = n - i ∧ i ≤ n ∧ i ≤ 1000 ∧ Below u0.heap.size u0 wx)
  case atStart => exact ⟨0, rfl, rfl, rfl, Nat.zero_le _, by omega, Below.refl _ _⟩
  case round =>
    obtain ⟨i, rfl, rfl, rfl, hin, hi1, hb⟩ := hrel
    have HB := Lib.hid hb
    clear hb
    have i0 : (0 : Int) ≤ i := by omega
    have hgl := HGL.out i
    have hg0 : (0 : Int) ≤ gTo m.nodes i := by omega
    have m1 := HM1.out _ HB.out
    obtain ⟨G, hG⟩ : ∃ G, gTo m.nodes i = G := ⟨_, rfl⟩
    rw [hG] at hgl hg0 ⊢
    by_cases hlt : i < n
    rotate_left 1
    · obtain rfl : i = n := by omega
      have hlt' : ¬ (i : Int) < i := by omega
      have HE : Hid (greatM m = decide ((600 : Int) < G)) := Lib.hid (by
        rw [HGM.out, Nat.min_eq_left hi1, hG]
        by_cases h : 600 < G
        · rw [decide_eq_true h, decide_eq_true (by omega)]
        · rw [decide_eq_false h, decide_eq_false (by omega)])
      clear hG
      go_wp2
      go_ret
      exact ⟨by rw [HE.out]; rfl, HB0.out.trans (HB.out.mono HB0.out.size)⟩
    · have hlt' : (i : Int) < n := by omega
      by_cases hth : i < 1000
      rotate_left 1
      · obtain rfl : i = 1000 := by omega
        have hth' : ¬ ((1000 : Nat) : Int) < 1000 := by omega
        have HE : Hid (greatM m = decide ((600 : Int) < G)) := Lib.hid (by
          rw [HGM.out, Nat.min_eq_right (by omega), hG]
          by_cases h : 600 < G
          · rw [decide_eq_true h, decide_eq_true (by omega)]
          · rw [decide_eq_false h, decide_eq_false (by omega)])
        clear hG
        go_wp2
        go_ret
        exact ⟨by rw [HE.out]; rfl, HB0.out.trans (HB.out.mono HB0.out.size)⟩
      · have hth' : (i : Int) < 1000 := by omega
        have him : i < m.nodes.length := by rw [HN.out]; exact hlt
        have HNX := Lib.hid (gTo_next him)
        rw [hG] at HNX
        have hlo := HLO.out _ (List.getElem_mem him)
        obtain ⟨b, off, Sp, cp, Sk, ck, Sr, cr, rfl, hbF, _, _, _, _, d4, d5, d6, _⟩ := node_at (HROW.out _ (HB0.out.trans (HB.out.mono HB0.out.size))) him
        obtain ⟨x, hx⟩ : ∃ x, m.nodes[i] = x := ⟨_, rfl⟩
        rw [hx] at d4 d5 d6 HNX hlo
        obtain ⟨hl1, hl2, hl3⟩ := hlo
        have hq : ((x.kids.length : Int)).tdiv 8 = (x.kids.length : Int) / 8 := Int.tdiv_eq_ediv_of_nonneg (by omega)
        have HV : Hid (IntKind.i64.wrap (IntKind.i64.wrap ((G : Int) + 1) + if (IntKind.i64.wrap (IntKind.i64.wrap ((x.props.length : Int) + (x.refs.length : Int)) + IntKind.i64.wrap ((x.kids.length : Int) / 8))) < 1000 then (IntKind.i64.wrap (IntKind.i64.wrap ((x.props.length : Int) + (x.refs.length : Int)) + IntKind.i64.wrap ((x.kids.length : Int) / 8))) else 1000) = ((G + 1 + gN x : Nat) : Int)) := Lib.hid (by
          have hgn : gN x ≤ 1000 := Nat.min_le_left _ _
          rw [IntWalk.i64_in ((x.props.length : Int) + (x.refs.length : Int)) ⟨by omega, by omega⟩, IntWalk.i64_in ((x.kids.length : Int) / 8) ⟨by omega, by omega⟩, IntWalk.i64_in ((G : Int) + 1) ⟨by omega, by omega⟩, IntWalk.i64_in ((x.props.length : Int) + (x.refs.length : Int) + (x.kids.length : Int) / 8) ⟨by omega, by omega⟩]
          have e : (if (x.props.length : Int) + (x.refs.length : Int) + (x.kids.length : Int) / 8 < 1000 then (x.props.length : Int) + (x.refs.length : Int) + (x.kids.length : Int) / 8 else 1000) = (gN x : Int) := by
            unfold gN
            split <;> omega
          rw [e, IntWalk.i64_in _ ⟨by omega, by omega⟩]
          omega)
        clear hx hG
        go_upto_region 5 with fail
        clear m1
        obtain ⟨ud, hu⟩ : ∃ z : World, wr.drew = z := ⟨_, rfl⟩
        have HBD : Hid (Below wr.heap.size wr ud) := Lib.hid (by rw [← hu]; exact (Below.refl _ _).drew)
        have HQ0 : ud.cell? ⟨w.heap.size, 1, none⟩ = some (.slice (some ⟨b, off, none⟩) n c) ∧ ud.cell? ⟨b, off + i * 7 + 4, none⟩ = some (.slice Sp x.props.length cp) ∧ ud.cell? ⟨b, off + i * 7 + 5, none⟩ = some (.slice Sk x.kids.length ck) ∧ ud.cell? ⟨b, off + i * 7 + 6, none⟩ = some (.slice Sr x.refs.length cr) := by
          have h1 := HM1.out _ (HB.out.trans (HBD.out.mono HB.out.size))
          subst hu
          exact ⟨h1, d4, d5, d6⟩
        clear d4 d5 d6
        refine wp_region_S (S := (fun w' : World => w'.cell? ⟨w.heap.size, 1, none⟩ = some (.slice (some ⟨b, off, none⟩) n c) ∧ w'.cell? ⟨b, off + i * 7 + 4, none⟩ = some (.slice Sp x.props.length cp) ∧ w'.cell? ⟨b, off + i * 7 + 5, none⟩ = some (.slice Sk x.kids.length ck) ∧ w'.cell? ⟨b, off + i * 7 + 6, none⟩ = some (.slice Sr x.refs.length cr))) (by kernel_rfl) (by rw [hu]; exact HQ0) (fun hHeld => ?_)
        rw [hu] at hHeld ⊢
        clear hu
        refine wpAnyS_take (i := 0) (v := ?_) rfl (by kernel_rfl) (by kernel_rfl) (by kernel_rfl) (fun _ _ _ h => h) (Or.inl ⟨by rfl, ?_⟩) (by assumption) ?_
        rotate_left 1
        · (intro w' hSw; obtain ⟨s0, s1, s2, s3⟩ := hSw; go_simp); try with_reducible rfl
        try simp only [Act.put, List.setIfInBounds_toArray, List.set_cons_zero, List.set_cons_succ, Nat.zero_add]
        refine wpAnyS_take (i := 1) (v := ?_) rfl (by kernel_rfl) (by kernel_rfl) (by kernel_rfl) (fun _ _ _ h => h) (Or.inl ⟨by rfl, ?_⟩) (by assumption) ?_
        rotate_left 1
        · (intro w' hSw; obtain ⟨s0, s1, s2, s3⟩ := hSw; go_simp); try with_reducible rfl
        try simp only [Act.put, List.setIfInBounds_toArray, List.set_cons_zero, List.set_cons_succ, Nat.zero_add]
        refine wpAnyS_take (i := 2) (v := ?_) rfl (by kernel_rfl) (by kernel_rfl) (by kernel_rfl) (fun _ _ _ h => h) (Or.inl ⟨by rfl, ?_⟩) (by assumption) ?_
        rotate_left 1
        · (intro w' hSw; obtain ⟨s0, s1, s2, s3⟩ := hSw; go_simp); try with_reducible rfl
        try simp only [Act.put, List.setIfInBounds_toArray, List.set_cons_zero, List.set_cons_succ, Nat.zero_add]
        refine wpAnyS_take (i := 3) (v := ?_) rfl (by kernel_rfl) (by kernel_rfl) (by kernel_rfl) (fun _ _ _ h => h) (Or.inl ⟨by rfl, ?_⟩) (by assumption) ?_
        rotate_left 1
        · (intro w' hSw; obtain ⟨s0, s1, s2, s3⟩ := hSw; go_simp); try with_reducible rfl
        try simp only [Act.put, List.setIfInBounds_toArray, List.set_cons_zero, List.set_cons_succ, Nat.zero_add]
        refine wpAnyS_take (i := 4) (v := ?_) rfl (by kernel_rfl) (by kernel_rfl) (by kernel_rfl) (fun _ _ _ h => h) (Or.inl ⟨by rfl, ?_⟩) (by assumption) ?_
        rotate_left 1
        · (intro w' hSw; obtain ⟨s0, s1, s2, s3⟩ := hSw; go_simp); try with_reducible rfl
        try simp only [Act.put, List.setIfInBounds_toArray, List.set_cons_zero, List.set_cons_succ, Nat.zero_add]
        refine wpAnyS_take (i := 5) (v := ?_) rfl (by kernel_rfl) (by kernel_rfl) (by kernel_rfl) (fun _ _ _ h => h) (Or.inl ⟨by rfl, ?_⟩) (by assumption) ?_
        rotate_left 1
        · (intro w' hSw; obtain ⟨s0, s1, s2, s3⟩ := hSw; go_simp); try with_reducible rfl
        try simp only [Act.put, List.setIfInBounds_toArray, List.set_cons_zero, List.set_cons_succ, Nat.zero_add]
        refine wpAnyS_take (i := 6) (v := ?_) rfl (by kernel_rfl) (by kernel_rfl) (by kernel_rfl) (fun _ _ _ h => h) (Or.inl ⟨by rfl, ?_⟩) (by assumption) ?_
        rotate_left 1
        · (intro w' hSw; obtain ⟨s0, s1, s2, s3⟩ := hSw; go_simp); try with_reducible rfl
        try simp only [Act.put, List.setIfInBounds_toArray, List.set_cons_zero, List.set_cons_succ, Nat.zero_add]
        refine wpAnyS_take (i := 7) (v := ?_) rfl (by kernel_rfl) (by kernel_rfl) (by kernel_rfl) (fun _ _ _ h => h) (Or.inl ⟨by rfl, ?_⟩) (by assumption) ?_
        rotate_left 1
        · (intro w' hSw; obtain ⟨s0, s1, s2, s3⟩ := hSw; go_simp); try with_reducible rfl
        try simp only [Act.put, List.setIfInBounds_toArray, List.set_cons_zero, List.set_cons_succ, Nat.zero_add]
        refine wpAnyS_take (i := 8) (v := ?_) rfl (by kernel_rfl) (by kernel_rfl) (by kernel_rfl) (fun _ _ _ h => h) (Or.inl ⟨by rfl, ?_⟩) (by assumption) ?_
        rotate_left 1
        · (intro w' hSw; obtain ⟨s0, s1, s2, s3⟩ := hSw; go_simp); try with_reducible rfl
        try simp only [Act.put, List.setIfInBounds_toArray, List.set_cons_zero, List.set_cons_succ, Nat.zero_add]
        refine wpAnyS_take (i := 9) (v := ?_) rfl (by kernel_rfl) (by kernel_rfl) (by kernel_rfl) (fun _ _ _ h => h) (Or.inl ⟨by rfl, ?_⟩) (by assumption) ?_
        rotate_left 1
        · (intro w' hSw; obtain ⟨s0, s1, s2, s3⟩ := hSw; go_simp); try with_reducible rfl
        try simp only [Act.put, List.setIfInBounds_toArray, List.set_cons_zero, List.set_cons_succ, Nat.zero_add]
        refine wpAnyS_take (i := 10) (v := ?_) rfl (by kernel_rfl) (by kernel_rfl) (by kernel_rfl) (fun _ _ _ h => h) (Or.inl ⟨by rfl, ?_⟩) (by assumption) ?_
        rotate_left 1
        · (intro w' hSw; obtain ⟨s0, s1, s2, s3⟩ := hSw; go_simp); try with_reducible rfl
        try simp only [Act.put, List.setIfInBounds_toArray, List.set_cons_zero, List.set_cons_succ, Nat.zero_add]
        refine wpAnyS_take (i := 11) (v := ?_) rfl (by kernel_rfl) (by kernel_rfl) (by kernel_rfl) (fun _ _ _ h => h) (Or.inl ⟨by rfl, ?_⟩) (by assumption) ?_
        rotate_left 1
        · (intro w' hSw; obtain ⟨s0, s1, s2, s3⟩ := hSw; go_simp); try with_reducible rfl
        try simp only [Act.put, List.setIfInBounds_toArray, List.set_cons_zero, List.set_cons_succ, Nat.zero_add]
        refine wpAnyS_take (i := 12) (v := ?_) rfl (by kernel_rfl) (by kernel_rfl) (by kernel_rfl) (fun _ _ _ h => h) (Or.inl ⟨by rfl, ?_⟩) (by assumption) ?_
        rotate_left 1
        · (intro w' hSw; obtain ⟨s0, s1, s2, s3⟩ := hSw; go_simp); try with_reducible rfl
        try simp only [Act.put, List.setIfInBounds_toArray, List.set_cons_zero, List.set_cons_succ, Nat.zero_add]
        refine wpAnyS_take (i := 13) (v := ?_) rfl (by kernel_rfl) (by kernel_rfl) (by kernel_rfl) (fun _ _ _ h => h) (Or.inl ⟨by rfl, ?_⟩) (by assumption) ?_
        rotate_left 1
        · (intro w' hSw; obtain ⟨s0, s1, s2, s3⟩ := hSw; go_simp); try with_reducible rfl
        try simp only [Act.put, List.setIfInBounds_toArray, List.set_cons_zero, List.set_cons_succ, Nat.zero_add]
        refine wpAnyS_take (i := 14) (v := ?_) rfl (by kernel_rfl) (by kernel_rfl) (by kernel_rfl) (fun _ _ _ h => h) (Or.inl ⟨by rfl, ?_⟩) (by assumption) ?_
        rotate_left 1
        · (intro w' hSw; obtain ⟨s0, s1, s2, s3⟩ := hSw; go_simp); try with_reducible rfl
        try simp only [Act.put, List.setIfInBounds_toArray, List.set_cons_zero, List.set_cons_succ, Nat.zero_add]
        refine wpAnyS_take (i := 15) (v := ?_) rfl (by kernel_rfl) (by kernel_rfl) (by kernel_rfl) (fun _ _ _ h => h) (Or.inl ⟨by rfl, ?_⟩) (by assumption) ?_
        rotate_left 1
        · (intro w' hSw; obtain ⟨s0, s1, s2, s3⟩ := hSw; go_simp); try with_reducible rfl
        try simp only [Act.put, List.setIfInBounds_toArray, List.set_cons_zero, List.set_cons_succ, Nat.zero_add]
        refine wpAnyS_take (i := 16) (v := ?_) rfl (by kernel_rfl) (by kernel_rfl) (by kernel_rfl) (fun _ _ _ h => h) (Or.inl ⟨by rfl, ?_⟩) (by assumption) ?_
        rotate_left 1
        · (intro w' hSw; obtain ⟨s0, s1, s2, s3⟩ := hSw; go_simp); try with_reducible rfl
        try simp only [Act.put, List.setIfInBounds_toArray, List.set_cons_zero, List.set_cons_succ, Nat.zero_add]
        refine wpAnyS_take (i := 17) (v := ?_) rfl (by kernel_rfl) (by kernel_rfl) (by kernel_rfl) (fun _ _ _ h => h) (Or.inl ⟨by rfl, ?_⟩) (by assumption) ?_
        rotate_left 1
        · (intro w' hSw; obtain ⟨s0, s1, s2, s3⟩ := hSw; go_simp); try with_reducible rfl
        try simp only [Act.put, List.setIfInBounds_toArray, List.set_cons_zero, List.set_cons_succ, Nat.zero_add]
        refine wpAnyS_take (i := 18) (v := ?_) rfl (by kernel_rfl) (by kernel_rfl) (by kernel_rfl) (fun _ _ _ h => h) (Or.inl ⟨by rfl, ?_⟩) (by assumption) ?_
        rotate_left 1
        · (intro w' hSw; obtain ⟨s0, s1, s2, s3⟩ := hSw; go_simp); try with_reducible rfl
        try simp only [Act.put, List.setIfInBounds_toArray, List.set_cons_zero, List.set_cons_succ, Nat.zero_add]
        refine wpAnyS_take (i := 19) (v := ?_) rfl (by kernel_rfl) (by kernel_rfl) (by kernel_rfl) (fun _ _ _ h => h) (Or.inl ⟨by rfl, ?_⟩) (by assumption) ?_
        rotate_left 1
        · (intro w' hSw; obtain ⟨s0, s1, s2, s3⟩ := hSw; go_simp); try with_reducible rfl
        try simp only [Act.put, List.setIfInBounds_toArray, List.set_cons_zero, List.set_cons_succ, Nat.zero_add]
        refine wpAnyS_take (i := 20) (v := ?_) rfl (by kernel_rfl) (by kernel_rfl) (by kernel_rfl) (fun _ _ _ h => h) (Or.inl ⟨by rfl, ?_⟩) (by assumption) ?_
        rotate_left 1
        · (intro w' hSw; obtain ⟨s0, s1, s2, s3⟩ := hSw; go_simp); try with_reducible rfl
        try simp only [Act.put, List.setIfInBounds_toArray, List.set_cons_zero, List.set_cons_succ, Nat.zero_add]
        refine wpAnyS_take (i := 21) (v := ?_) rfl (by kernel_rfl) (by kernel_rfl) (by kernel_rfl) (fun _ _ _ h => h) (Or.inl ⟨by rfl, ?_⟩) (by assumption) ?_
        rotate_left 1
        · (intro w' hSw; obtain ⟨s0, s1, s2, s3⟩ := hSw; go_simp); try with_reducible rfl
        try simp only [Act.put, List.setIfInBounds_toArray, List.set_cons_zero, List.set_cons_succ, Nat.zero_add]
        refine wpAnyS_take (i := 22) (v := ?_) rfl (by kernel_rfl) (by kernel_rfl) (by kernel_rfl) (fun _ _ _ h => h) (Or.inl ⟨by rfl, ?_⟩) (by assumption) ?_
        rotate_left 1
        · (intro w' hSw; obtain ⟨s0, s1, s2, s3⟩ := hSw; go_simp); try with_reducible rfl
        try simp only [Act.put, List.setIfInBounds_toArray, List.set_cons_zero, List.set_cons_succ, Nat.zero_add]
        refine wpAnyS_take (i := 23) (v := ?_) rfl (by kernel_rfl) (by kernel_rfl) (by kernel_rfl) (fun _ _ _ h => h) (Or.inl ⟨by rfl, ?_⟩) (by assumption) ?_
        rotate_left 1
        · (intro w' hSw; obtain ⟨s0, s1, s2, s3⟩ := hSw; go_simp); try with_reducible rfl
        try simp only [Act.put, List.setIfInBounds_toArray, List.set_cons_zero, List.set_cons_succ, Nat.zero_add]
        refine wpAnyS_take (i := 24) (v := ?_) rfl (by kernel_rfl) (by kernel_rfl) (by kernel_rfl) (fun _ _ _ h => h) (Or.inl ⟨by rfl, ?_⟩) (by assumption) ?_
        rotate_left 1
        · (intro w' hSw; obtain ⟨s0, s1, s2, s3⟩ := hSw; go_simp); try with_reducible rfl
        try simp only [Act.put, List.setIfInBounds_toArray, List.set_cons_zero, List.set_cons_succ, Nat.zero_add]
        refine wpAnyS_take (i := 25) (v := ?_) rfl (by kernel_rfl) (by kernel_rfl) (by kernel_rfl) (fun _ _ _ h => h) (Or.inl ⟨by rfl, ?_⟩) (by assumption) ?_
        rotate_left 1
        · (intro w' hSw; obtain ⟨s0, s1, s2, s3⟩ := hSw; go_simp); try with_reducible rfl
        try simp only [Act.put, List.setIfInBounds_toArray, List.set_cons_zero, List.set_cons_succ, Nat.zero_add]
        refine wpAnyS_take (i := 26) (v := ?_) rfl (by kernel_rfl) (by kernel_rfl) (by kernel_rfl) (fun _ _ _ h => h) (Or.inl ⟨by rfl, ?_⟩) (by assumption) ?_
        rotate_left 1
        · (intro w' hSw; obtain ⟨s0, s1, s2, s3⟩ := hSw; go_simp); try with_reducible rfl
        try simp only [Act.put, List.setIfInBounds_toArray, List.set_cons_zero, List.set_cons_succ, Nat.zero_add]
        refine wpAnyS_take (i := 27) (v := ?_) rfl (by kernel_rfl) (by kernel_rfl) (by kernel_rfl) (fun _ _ _ h => h) (Or.inl ⟨by rfl, ?_⟩) (by assumption) ?_
        rotate_left 1
        · (intro w' hSw; obtain ⟨s0, s1, s2, s3⟩ := hSw; go_simp); try with_reducible rfl
        try simp only [Act.put, List.setIfInBounds_toArray, List.set_cons_zero, List.set_cons_succ, Nat.zero_add]
        refine wpAnyS_one (i := 28) rfl (by kernel_rfl) (fun K hK => ?_)
        go_simp
        refine hK.out _ _ HQ0 ?_
        clear hK K
        try simp only [Act.put, List.setIfInBounds_toArray, List.set_cons_zero, List.set_cons_succ, Nat.zero_add]
        refine wpAnyS_done (by kernel_rfl) ?_ _
        clear HQ0
        obtain ⟨M, hM⟩ : ∃ z : Int, (if (IntKind.i64.wrap (IntKind.i64.wrap ((x.props.length : Int) + (x.refs.length : Int)) + IntKind.i64.wrap ((x.kids.length : Int) / 8))) < 1000 then (IntKind.i64.wrap (IntKind.i64.wrap ((x.props.length : Int) + (x.refs.length : Int)) + IntKind.i64.wrap ((x.kids.length : Int) / 8))) else 1000) = z := ⟨_, rfl⟩
        rw [hM] at HV ⊢
        rw [HV.out]
        clear hM
        obtain ⟨G2, hG2⟩ : ∃ z, G + 1 + gN x = z := ⟨_, rfl⟩
        rw [hG2] at HNX ⊢
        clear hG2 HV
        go_wp2
        go_roundg (n - (i + 1))
        case measure => omega
        case rel => exact ⟨i + 1, by rw [HNX.out], by go_num, rfl, by omega, by omega, HB.out.trans (HBD.out.mono HB.out.size)⟩
end Go.Proofs.YtpkapommekkbcaaDoor
