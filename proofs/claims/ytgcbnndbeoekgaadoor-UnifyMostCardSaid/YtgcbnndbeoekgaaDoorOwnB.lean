/- a bound as the program has it, in memory of its own -/
import Derived.Test.YtgcbnndbeoekgaaDoorCopyT
set_option linter.unusedSimpArgs false
set_option linter.unusedVariables false
namespace Go.Proofs.YtgcbnndbeoekgaaDoor
open Go Go.RowKit

theorem ubind_info : (Tryd.prog.info? 71).map (fun i => (i.zero, i.size, i.bytes)) = some (some (.agg #[.int .i64 0, .slice none 0 0]), 2, 32) := by kernel_rfl

set_option maxRecDepth 100000 in
set_option maxHeartbeats 4000000 in
theorem own_any (A : Option Addr) (c : Nat) (bd : List ABind) (w : World) (F : Nat → Prop) (hF : ∀ b, F b → b < w.heap.size) (hr : RowOf 2 EBind w F A bd) (hlc : bd.length ≤ c) (hc : c ≤ maxLen) (hl : bd.length ≤ 1048576) (hla : ∀ x ∈ bd, x.term.length ≤ 2932031007402 ∧ ∀ t ∈ x.term, t.args.length ≤ 17592186044416) :
    Calls Tryd.prog 20 #[.slice A bd.length c] w fun e w' => ∃ v, e = .returned v ∧ IsRow 2 EBind w' (fun b => w.heap.size ≤ b ∧ b < w'.heap.size) v bd ∧ Below w.heap.size w w' := by
  have HR := Lib.hid hr; have HLA := Lib.hid hla
  unfold maxLen at hc
  clear hr hla
  go_enter Tryd.func20, Tryd.ntmps20
  go_upto_region 3 with fail
  go_loopg [3, 4] bd.length (fun g s3 s4 wx => ∃ i : Nat, s4 = .int .i64 i ∧ g = bd.length - i ∧ i ≤ bd.length ∧ Below w.heap.size w wx ∧ OwnRow 2 71 EBind (fun b => w.heap.size ≤ b) wx w.heap.size s3 (bd.take i))
  case atStart => exact ⟨0, rfl, rfl, Nat.zero_le _, Below.refl _ _, by simpa using OwnRow.nil _ _⟩
  case round =>
    obtain ⟨i, rfl, rfl, hi, hb, hown⟩ := hrel
    have HB := Lib.hid hb; have HO := Lib.hid hown
    obtain ⟨_, hown'⟩ := hown.owns
    obtain ⟨Av, cv, rfl⟩ := own_shape hown'
    have i0 : (0 : Int) ≤ i := by omega
    have HTL : Hid ((bd.take i).length = i) := Lib.hid (by rw [List.length_take]; omega)
    rw [HTL.out] at HO
    (try rw [HTL.out])
    clear hown hown'
    by_cases hlt : i < bd.length
    · have hlt' : (i : Int) < bd.length := by omega
      obtain ⟨b, off, S, k, rfl, hbF, d0, d1, hk1, hk2, hrow⟩ := bind_at HR.out hlt
      have hbw := hF b hbF
      obtain ⟨hl1, hl2⟩ := HLA.out _ (List.getElem_mem hlt)
      have HCP : Hid (∀ w', Below w.heap.size w w' → Calls Tryd.prog 34 #[.agg #[.slice S bd[i].term.length k]] w' fun e w2 => ∃ v, e = .returned (.agg #[v]) ∧ IsRow 3 ETN w2 (fun b => w'.heap.size ≤ b ∧ b < w2.heap.size) v bd[i].term ∧ Below w'.heap.size w' w2) := Lib.hid (fun w' hb => rcopyT_any S k bd[i].term w' F (fun b h => Nat.lt_of_lt_of_le (hF b h) hb.size) (hrow.keep ETN.stays (Keep.below hb hF) (fun _ h => h)) hk1 hk2 hl1 hl2)
      have HTK : Hid (bd.take (i + 1) = bd.take i ++ [bd[i]]) := Lib.hid (List.take_succ_eq_append_getElem hlt)
      have HD : Hid (∀ w', Below w.heap.size w w' → w'.cell? ⟨b, off + i * 2, none⟩ = some (.int .i64 bd[i].hole) ∧ w'.cell? ⟨b, off + i * 2 + 1, none⟩ = some (.slice S bd[i].term.length k)) := Lib.hid (fun w' hb' => ⟨(hb'.cell (p := ⟨b, off + i * 2, none⟩) hbw).trans d0, (hb'.cell (p := ⟨b, off + i * 2 + 1, none⟩) hbw).trans d1⟩)
      clear hrow d0 d1 hk1 hl1 hl2
      obtain ⟨x, hx⟩ : ∃ x, bd[i] = x := ⟨_, rfl⟩
      rw [hx] at HCP HTK HD
      clear hx hb
      obtain ⟨h, tm⟩ := x
      obtain ⟨n, hn⟩ : ∃ n, tm.length = n := ⟨_, rfl⟩
      have HN := Lib.hid hn
      have HCP : Hid (∀ w', Below w.heap.size w w' → Calls Tryd.prog 34 #[.agg #[.slice S n k]] w' fun e w2 => ∃ v, e = .returned (.agg #[v]) ∧ IsRow 3 ETN w2 (fun b => w'.heap.size ≤ b ∧ b < w2.heap.size) v tm ∧ Below w'.heap.size w' w2) := Lib.hid (by rw [← hn]; exact HCP.out)
      have HD : Hid (∀ w', Below w.heap.size w w' → w'.cell? ⟨b, off + i * 2, none⟩ = some (.int .i64 h) ∧ w'.cell? ⟨b, off + i * 2 + 1, none⟩ = some (.slice S n k)) := Lib.hid (by rw [← hn]; exact HD.out)
      clear hn
      go_upto_region 5 with fail
      obtain ⟨u, hu⟩ : ∃ u : World, wr.drew = u := ⟨_, rfl⟩
      have hbu : Below wr.heap.size wr u := by rw [← hu]; exact (Below.refl _ _).drew
      have HBU := Lib.hid (HB.out.trans (hbu.mono HB.out.size))
      have HOU := Lib.hid (HO.out.below EBind.stays hbu)
      clear hbu HB HO
      refine wp_region_Y (S := (fun w' : World => w'.cell? ⟨b, off + i * 2, none⟩ = some (.int .i64 h) ∧ w'.cell? ⟨b, off + i * 2 + 1, none⟩ = some (.slice S n k))) 15 (by kernel_rfl) (by rw [hu]; exact HD.out _ HBU.out) (fun hHeld => ?_)
      rw [hu] at hHeld ⊢
      clear hu
      refine wpAnyY_take (i := 0) (v := ?_) rfl (by kernel_rfl) (by kernel_rfl) (by kernel_rfl) (by kernel_rfl) (fun _ _ _ h => h) (Or.inl ⟨by rfl, ?_⟩) (by assumption) ?_
      rotate_left 1
      · (intro w' hSw; obtain ⟨s0, s1⟩ := hSw; go_simp); try with_reducible rfl
      try simp only [Act.put, List.setIfInBounds_toArray, List.set_cons_zero, List.set_cons_succ, Nat.zero_add]
      refine wpAnyY_take (i := 1) (v := ?_) rfl (by kernel_rfl) (by kernel_rfl) (by kernel_rfl) (by kernel_rfl) (fun _ _ _ h => h) (Or.inl ⟨by rfl, ?_⟩) (by assumption) ?_
      rotate_left 1
      · (intro w' hSw; obtain ⟨s0, s1⟩ := hSw; go_simp); try with_reducible rfl
      try simp only [Act.put, List.setIfInBounds_toArray, List.set_cons_zero, List.set_cons_succ, Nat.zero_add]
      refine wpAnyY_take (i := 2) (v := ?_) rfl (by kernel_rfl) (by kernel_rfl) (by kernel_rfl) (by kernel_rfl) (fun _ _ _ h => h) (Or.inl ⟨by rfl, ?_⟩) (by assumption) ?_
      rotate_left 1
      · (intro w' hSw; obtain ⟨s0, s1⟩ := hSw; go_simp); try with_reducible rfl
      try simp only [Act.put, List.setIfInBounds_toArray, List.set_cons_zero, List.set_cons_succ, Nat.zero_add]
      refine wpAnyY_take (i := 3) (v := ?_) rfl (by kernel_rfl) (by kernel_rfl) (by kernel_rfl) (by kernel_rfl) (fun _ _ _ h => h) (Or.inl ⟨by rfl, ?_⟩) (by assumption) ?_
      rotate_left 1
      · (intro w' hSw; obtain ⟨s0, s1⟩ := hSw; go_simp); try with_reducible rfl
      try simp only [Act.put, List.setIfInBounds_toArray, List.set_cons_zero, List.set_cons_succ, Nat.zero_add]
      refine wpAnyY_take (i := 4) (v := ?_) rfl (by kernel_rfl) (by kernel_rfl) (by kernel_rfl) (by kernel_rfl) (fun _ _ _ h => h) (Or.inl ⟨by rfl, ?_⟩) (by assumption) ?_
      rotate_left 1
      · (intro w' hSw; obtain ⟨s0, s1⟩ := hSw; go_simp); try with_reducible rfl
      try simp only [Act.put, List.setIfInBounds_toArray, List.set_cons_zero, List.set_cons_succ, Nat.zero_add]
      refine wpAnyY_take (i := 5) (v := ?_) rfl (by kernel_rfl) (by kernel_rfl) (by kernel_rfl) (by kernel_rfl) (fun _ _ _ h => h) (Or.inl ⟨by rfl, ?_⟩) (by assumption) ?_
      rotate_left 1
      · (intro w' hSw; obtain ⟨s0, s1⟩ := hSw; go_simp); try with_reducible rfl
      try simp only [Act.put, List.setIfInBounds_toArray, List.set_cons_zero, List.set_cons_succ, Nat.zero_add]
      refine wpAnyY_take (i := 6) (v := ?_) rfl (by kernel_rfl) (by kernel_rfl) (by kernel_rfl) (by kernel_rfl) (fun _ _ _ h => h) (Or.inl ⟨by rfl, ?_⟩) (by assumption) ?_
      rotate_left 1
      · (intro w' hSw; obtain ⟨s0, s1⟩ := hSw; go_simp); try with_reducible rfl
      try simp only [Act.put, List.setIfInBounds_toArray, List.set_cons_zero, List.set_cons_succ, Nat.zero_add]
      refine wpAnyY_take (i := 7) (v := ?_) rfl (by kernel_rfl) (by kernel_rfl) (by kernel_rfl) (by kernel_rfl) (fun _ _ _ h => h) (Or.inl ⟨by rfl, ?_⟩) (by assumption) ?_
      rotate_left 1
      · (intro w' hSw; obtain ⟨s0, s1⟩ := hSw; go_simp); try with_reducible rfl
      try simp only [Act.put, List.setIfInBounds_toArray, List.set_cons_zero, List.set_cons_succ, Nat.zero_add]
      refine wpAnyY_take (i := 8) (v := ?_) rfl (by kernel_rfl) (by kernel_rfl) (by kernel_rfl) (by kernel_rfl) (fun _ _ _ h => h) (Or.inl ⟨by rfl, ?_⟩) (by assumption) ?_
      rotate_left 1
      · (intro w' hSw; obtain ⟨s0, s1⟩ := hSw; go_simp); try with_reducible rfl
      try simp only [Act.put, List.setIfInBounds_toArray, List.set_cons_zero, List.set_cons_succ, Nat.zero_add]
      refine wpAnyY_take (i := 9) (v := ?_) rfl (by kernel_rfl) (by kernel_rfl) (by kernel_rfl) (by kernel_rfl) (fun _ _ _ h => h) (Or.inl ⟨by rfl, ?_⟩) (by assumption) ?_
      rotate_left 1
      · (intro w' hSw; obtain ⟨s0, s1⟩ := hSw; go_simp); try with_reducible rfl
      try simp only [Act.put, List.setIfInBounds_toArray, List.set_cons_zero, List.set_cons_succ, Nat.zero_add]
      refine wpAnyY_take (i := 10) (v := ?_) rfl (by kernel_rfl) (by kernel_rfl) (by kernel_rfl) (by kernel_rfl) (fun _ _ _ h => h) (Or.inl ⟨by rfl, ?_⟩) (by assumption) ?_
      rotate_left 1
      · (intro w' hSw; obtain ⟨s0, s1⟩ := hSw; go_simp); try with_reducible rfl
      try simp only [Act.put, List.setIfInBounds_toArray, List.set_cons_zero, List.set_cons_succ, Nat.zero_add]
      refine wpAnyY_one (i := 11) rfl (by kernel_rfl) (fun K hK => ?_)
      go_simp
      refine (HCP.out _ HBU.out).mono ?_
      rintro _ w11 ⟨vC, rfl, hrC, hb3⟩
      have HRC : Hid (IsRow 3 ETN w11 (Oth (fun b => w.heap.size ≤ b) w11 (.slice Av i cv)) vC tm) := Lib.hid (hrC.keep ETN.stays (Keep.refl _ _) (fun b h => ⟨Nat.le_trans HBU.out.size h.1, h.2, fun e => by
        obtain ⟨_, ho⟩ := HOU.out.owns
        have := (ho.lt b e).2
        omega⟩))
      obtain ⟨AC, cC, hvC, hc1, hc2, hc3⟩ := hrC
      subst hvC
      clear hc1 hc2 hc3
      have HBC := Lib.hid (HBU.out.trans (hb3.mono HBU.out.size))
      have HOC := Lib.hid (HOU.out.below EBind.stays hb3)
      clear HBU HOU
      clear hb3
      try rw [HN.out]
      refine hK.out _ _ (fun _ => HD.out _ HBC.out) ?_
      have hHeldC := HD.out _ HBC.out
      clear hK K
      try simp only [Act.put, List.setIfInBounds_toArray, List.set_cons_zero, List.set_cons_succ, Nat.zero_add]
      refine wpAnyY_take (i := 12) (v := ?_) rfl (by kernel_rfl) (by kernel_rfl) (by kernel_rfl) (by kernel_rfl) (fun _ _ _ h => h) (Or.inl ⟨by rfl, ?_⟩) (by assumption) ?_
      rotate_left 1
      · (intro w' hSw; obtain ⟨s0, s1⟩ := hSw; go_simp); try with_reducible rfl
      try simp only [Act.put, List.setIfInBounds_toArray, List.set_cons_zero, List.set_cons_succ, Nat.zero_add]
      refine wpAnyY_one (i := 13) rfl (by kernel_rfl) (fun K hK => ?_)
      go_simp
      obtain ⟨q, hq⟩ : ∃ q, w11.heap.size = q := ⟨_, rfl⟩
      obtain ⟨w13, hnw⟩ : ∃ x : World, w11.alloc (.cells #[.int .i64 h, .slice AC n cC] 71) = x := ⟨_, rfl⟩
      have hb3 : Below w11.heap.size w11 w13 := by rw [← hnw]; exact (Below.refl _ _).alloc (Nat.le_refl _) _
      have HKD : Hid (Blk w13 q 71 #[.int .i64 h, .slice AC n cC]) := Lib.hid (by rw [← hnw]; exact Blk.new' hq.symm)
      have HRD : Hid (IsRow 3 ETN w13 (Oth (fun b => w.heap.size ≤ b) w13 (.slice Av i cv)) (.slice AC tm.length cC) tm) := Lib.hid (HRC.out.keep ETN.stays (Keep.below hb3 (fun b hb => hb.2.1)) (fun b hb => ⟨hb.1, Nat.lt_of_lt_of_le hb.2.1 hb3.size, hb.2.2⟩))
      have HBD := Lib.hid (HBC.out.trans (hb3.mono HBC.out.size))
      have HOD := Lib.hid (HOC.out.below EBind.stays hb3)
      clear HBC HOC
      rw [hnw]
      try rw [hq]
      clear hnw hb3 hq HRC
      refine hK.out _ _ (fun _ => HD.out _ HBD.out) ?_
      have hHeldD := HD.out _ HBD.out
      clear hK K
      try simp only [Act.put, List.setIfInBounds_toArray, List.set_cons_zero, List.set_cons_succ, Nat.zero_add]
      refine wpAnyY_one (i := 14) rfl (by kernel_rfl) (fun K hK => ?_)
      refine step_push (P := Tryd.prog) w13 EBind.stays (F := fun b => w.heap.size ≤ b) rfl (.tmp 11) (.tmp 24) 40 (by rfl) w.heap.size 71 Tryd.underlying40 ubind_info rfl (by omega) (.slice Av i cv) (bd.take i) (by rfl) HOD.out ⟨h, tm⟩ ⟨q, 0, none⟩ 1 [.int .i64 h, .slice AC n cC] (by rfl) rfl (news_cells HKD.out) (by intro u hu; simp at hu; rcases hu with rfl | rfl <;> rfl) ⟨_, by rw [← HN.out], HRD.out⟩ (by rw [HTL.out]; unfold maxLen; omega) (by rw [HTL.out]; omega) HBD.out.size ?_
      intro A9 c9 w9 hown9 hg9 _
      have HB9 : Hid (Below w.heap.size w w9) := Lib.hid (HBD.out.grown hg9 HBD.out.size (fun k e => by
        obtain ⟨_, ho⟩ := HOD.out.owns
        exact (ho.lt k e).1))
      have HO9 : Hid (OwnRow 2 71 EBind (fun b => w.heap.size ≤ b) w9 w.heap.size (.slice A9 (i + 1) c9) (bd.take (i + 1))) := Lib.hid (by rw [HTK.out]; have h9 := hown9; rw [HTL.out] at h9; exact h9)
      (try rw [HTL.out])
      clear hown9 hg9
      refine hK.out _ _ (fun _ => HD.out _ HB9.out) ?_
      have hHeld9 := HD.out _ HB9.out
      clear hK K
      try simp only [Act.put, List.setIfInBounds_toArray, List.set_cons_zero, List.set_cons_succ, Nat.zero_add]
      refine wpAnyY_one0 (i := 15) rfl (by kernel_rfl) (by kernel_rfl) (fun K hK => ?_)
      go_simp
      refine hK.out _ _ ?_
      clear hK K
      try simp only [Act.put, List.setIfInBounds_toArray, List.set_cons_zero, List.set_cons_succ, Nat.zero_add]
      refine wpAnyY_done (by kernel_rfl) ?_ _
      go_wp2
      go_roundg (bd.length - (i + 1))
      case measure => omega
      case rel => exact ⟨i + 1, by go_num, rfl, by omega, HB9.out, HO9.out⟩
    · have hlt' : ¬ (i : Int) < bd.length := by omega
      have HE : Hid (bd.take i = bd) := Lib.hid (List.take_of_length_le (by omega))
      clear hb
      go_wp2
      go_ret
      exact ⟨_, rfl, by have := HO.out.isRow EBind.stays (F' := fun b => w.heap.size ≤ b ∧ b < wr.heap.size) (fun b h1 h2 => ⟨h1, h2⟩) (fun b h1 h2 => ⟨h1, h2⟩); rw [HE.out] at this; exact this, HB.out⟩
end Go.Proofs.YtgcbnndbeoekgaaDoor
