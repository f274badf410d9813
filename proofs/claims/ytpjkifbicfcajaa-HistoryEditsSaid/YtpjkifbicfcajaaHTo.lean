import Derived.Test.YtpjkifbicfcajaaHNew
set_option linter.unusedSimpArgs false
set_option linter.unusedVariables false
section
/- a past that is copied -/
namespace Go.Proofs.Ytpjkifbicfcajaa
open Go Go.RowKit

set_option maxRecDepth 100000 in
set_option maxHeartbeats 2000000 in
theorem copy_any (p : Nat) (P : APast) (w : World) (F : Nat → Prop) (hF : ∀ b, F b → b < w.heap.size) (h : IsPast w F p P) :
    Calls Try.prog 23 #[.pointer (some ⟨p, 0, none⟩)] w fun e w' => ∃ q, e = .returned (.pointer (some ⟨q, 0, none⟩)) ∧ w.heap.size ≤ q ∧ IsPast w' F q P ∧ Below w.heap.size w w' := by
  obtain ⟨A, c, hb, hc1, hc2, hr⟩ := h
  have hnow := now_lt P
  have HR := Lib.hid hr
  have hplt := hb.lt
  have HPB := Lib.hid hb
  have HN := Lib.hid (fun (w' : World) (h : Blk w' p 69 #[.slice A P.list.length c, .int .i64 P.ahead.length]) => none_any p P.list.length c A P.ahead.length w' h (by omega))
  have HSS : Hid (∀ w', Below w.heap.size w w' → (fun w' : World => w'.cell? ⟨p, 0, none⟩ = some (.slice A P.list.length c) ∧ w'.cell? ⟨p, 1, none⟩ = some (.int .i64 P.ahead.length)) w') := Lib.hid (fun w' hb' => by
    have hb2 := hb.below hb' hplt
    have p0 := hb2.cell 0; have p1 := hb2.cell 1
    simp at p0 p1
    exact ⟨p0, p1⟩)
  clear hb hr
  have n0 : (0 : Int) ≤ P.list.length := by omega
  have n1 : (P.list.length : Int) ≤ c := by omega
  have hcm : c ≤ maxLen := hc2
  unfold maxLen at hcm
  have HC2 := Lib.hid hc2
  clear hc2
  go_enter Try.func23, Try.ntmps23
  go_wp2_with (go_at_call 41; refine (HN.out _ HPB.out).mono ?_; rintro _ _ ⟨rfl, rfl⟩)
  obtain ⟨u, hu⟩ : ∃ u : World, w.drew = u := ⟨_, rfl⟩
  have HU : Hid (Below w.heap.size w u) := Lib.hid (by rw [← hu]; exact (Below.refl _ _).drew)
  refine wp_region_Y (S := (fun w' : World => w'.cell? ⟨p, 0, none⟩ = some (.slice A P.list.length c) ∧ w'.cell? ⟨p, 1, none⟩ = some (.int .i64 P.ahead.length))) 21 (by kernel_rfl) (by rw [hu]; exact HSS.out _ HU.out) (fun hHeld => ?_)
  rw [hu] at hHeld ⊢
  clear hu
  refine wpAnyY_take (i := 0) (v := ?_) rfl (by kernel_rfl) (by kernel_rfl) (by kernel_rfl) (by kernel_rfl) (fun _ _ _ h => h) (Or.inl ⟨by rfl, ?_⟩) (by assumption) ?_
  rotate_left 1
  · (intro w' hSw; obtain ⟨s0, s1⟩ := hSw; go_simp); try with_reducible rfl
  try simp only [Act.put, List.setIfInBounds_toArray, List.set_cons_zero, List.set_cons_succ, Nat.zero_add]
  refine wpAnyY_take (i := 1) (v := ?_) rfl (by kernel_rfl) (by kernel_rfl) (by kernel_rfl) (by kernel_rfl) (fun _ _ _ h => h) (Or.inl ⟨by rfl, ?_⟩) (by assumption) ?_
  rotate_left 1
  · (intro w' hSw; obtain ⟨s0, s1⟩ := hSw; go_simp); try with_reducible rfl
  try simp only [Act.put, List.setIfInBounds_toArray, List.set_cons_zero, List.set_cons_succ, Nat.zero_add]
  refine wpAnyY_take (i := 2) (v := ?_) rfl (by kernel_rfl) (by kernel_rfl) (by kernel_rfl) (by kernel_rfl) (fun _ _ _ h => h) (Or.inl ⟨by rfl, ?_⟩) (by assumption) ?_
  rotate_left 1
  · (intro w' hSw; obtain ⟨s0, s1⟩ := hSw; go_simp); try with_reducible rfl
  try simp only [Act.put, List.setIfInBounds_toArray, List.set_cons_zero, List.set_cons_succ, Nat.zero_add]
  refine wpAnyY_take (i := 3) (v := ?_) rfl (by kernel_rfl) (by kernel_rfl) (by kernel_rfl) (by kernel_rfl) (fun _ _ _ h => h) (Or.inl ⟨by rfl, ?_⟩) (by assumption) ?_
  rotate_left 1
  · (intro w' hSw; obtain ⟨s0, s1⟩ := hSw; go_simp); try with_reducible rfl
  try simp only [Act.put, List.setIfInBounds_toArray, List.set_cons_zero, List.set_cons_succ, Nat.zero_add]
  refine wpAnyY_take (i := 4) (v := ?_) rfl (by kernel_rfl) (by kernel_rfl) (by kernel_rfl) (by kernel_rfl) (fun _ _ _ h => h) (Or.inl ⟨by rfl, ?_⟩) (by assumption) ?_
  rotate_left 1
  · (intro w' hSw; obtain ⟨s0, s1⟩ := hSw; go_simp); try with_reducible rfl
  try simp only [Act.put, List.setIfInBounds_toArray, List.set_cons_zero, List.set_cons_succ, Nat.zero_add]
  refine wpAnyY_take (i := 5) (v := ?_) rfl (by kernel_rfl) (by kernel_rfl) (by kernel_rfl) (by kernel_rfl) (fun _ _ _ h => h) (Or.inl ⟨by rfl, ?_⟩) (by assumption) ?_
  rotate_left 1
  · (intro w' hSw; obtain ⟨s0, s1⟩ := hSw; go_simp); try with_reducible rfl
  try simp only [Act.put, List.setIfInBounds_toArray, List.set_cons_zero, List.set_cons_succ, Nat.zero_add]
  refine wpAnyY_take (i := 6) (v := ?_) rfl (by kernel_rfl) (by kernel_rfl) (by kernel_rfl) (by kernel_rfl) (fun _ _ _ h => h) (Or.inl ⟨by rfl, ?_⟩) (by assumption) ?_
  rotate_left 1
  · (intro w' hSw; obtain ⟨s0, s1⟩ := hSw; go_simp); try with_reducible rfl
  try simp only [Act.put, List.setIfInBounds_toArray, List.set_cons_zero, List.set_cons_succ, Nat.zero_add]
  refine wpAnyY_take (i := 7) (v := ?_) rfl (by kernel_rfl) (by kernel_rfl) (by kernel_rfl) (by kernel_rfl) (fun _ _ _ h => h) (Or.inl ⟨by rfl, ?_⟩) (by assumption) ?_
  rotate_left 1
  · (intro w' hSw; obtain ⟨s0, s1⟩ := hSw; go_simp); try with_reducible rfl
  try simp only [Act.put, List.setIfInBounds_toArray, List.set_cons_zero, List.set_cons_succ, Nat.zero_add]
  refine wpAnyY_take (i := 8) (v := ?_) rfl (by kernel_rfl) (by kernel_rfl) (by kernel_rfl) (by kernel_rfl) (fun _ _ _ h => h) (Or.inl ⟨by rfl, ?_⟩) (by assumption) ?_
  rotate_left 1
  · (intro w' hSw; obtain ⟨s0, s1⟩ := hSw; go_simp); try with_reducible rfl
  try simp only [Act.put, List.setIfInBounds_toArray, List.set_cons_zero, List.set_cons_succ, Nat.zero_add]
  refine wpAnyY_take (i := 9) (v := ?_) rfl (by kernel_rfl) (by kernel_rfl) (by kernel_rfl) (by kernel_rfl) (fun _ _ _ h => h) (Or.inl ⟨by rfl, ?_⟩) (by assumption) ?_
  rotate_left 1
  · (intro w' hSw; obtain ⟨s0, s1⟩ := hSw; go_simp); try with_reducible rfl
  try simp only [Act.put, List.setIfInBounds_toArray, List.set_cons_zero, List.set_cons_succ, Nat.zero_add]
  refine wpAnyY_take (i := 10) (v := ?_) rfl (by kernel_rfl) (by kernel_rfl) (by kernel_rfl) (by kernel_rfl) (fun _ _ _ h => h) (Or.inl ⟨by rfl, ?_⟩) (by assumption) ?_
  rotate_left 1
  · (intro w' hSw; obtain ⟨s0, s1⟩ := hSw; go_simp); try with_reducible rfl
  try simp only [Act.put, List.setIfInBounds_toArray, List.set_cons_zero, List.set_cons_succ, Nat.zero_add]
  refine wpAnyY_take (i := 11) (v := ?_) rfl (by kernel_rfl) (by kernel_rfl) (by kernel_rfl) (by kernel_rfl) (fun _ _ _ h => h) (Or.inl ⟨by rfl, ?_⟩) (by assumption) ?_
  rotate_left 1
  · (intro w' hSw; obtain ⟨s0, s1⟩ := hSw; go_simp); try with_reducible rfl
  try simp only [Act.put, List.setIfInBounds_toArray, List.set_cons_zero, List.set_cons_succ, Nat.zero_add]
  refine wpAnyY_take (i := 12) (v := ?_) rfl (by kernel_rfl) (by kernel_rfl) (by kernel_rfl) (by kernel_rfl) (fun _ _ _ h => h) (Or.inl ⟨by rfl, ?_⟩) (by assumption) ?_
  rotate_left 1
  · (intro w' hSw; obtain ⟨s0, s1⟩ := hSw; go_simp); try with_reducible rfl
  try simp only [Act.put, List.setIfInBounds_toArray, List.set_cons_zero, List.set_cons_succ, Nat.zero_add]
  refine wpAnyY_take (i := 13) (v := ?_) rfl (by kernel_rfl) (by kernel_rfl) (by kernel_rfl) (by kernel_rfl) (fun _ _ _ h => h) (Or.inl ⟨by rfl, ?_⟩) (by assumption) ?_
  rotate_left 1
  · (intro w' hSw; obtain ⟨s0, s1⟩ := hSw; go_simp); try with_reducible rfl
  try simp only [Act.put, List.setIfInBounds_toArray, List.set_cons_zero, List.set_cons_succ, Nat.zero_add]
  refine wpAnyY_take (i := 14) (v := ?_) rfl (by kernel_rfl) (by kernel_rfl) (by kernel_rfl) (by kernel_rfl) (fun _ _ _ h => h) (Or.inl ⟨by rfl, ?_⟩) (by assumption) ?_
  rotate_left 1
  · (intro w' hSw; obtain ⟨s0, s1⟩ := hSw; go_simp); try with_reducible rfl
  try simp only [Act.put, List.setIfInBounds_toArray, List.set_cons_zero, List.set_cons_succ, Nat.zero_add]
  refine wpAnyY_take (i := 15) (v := ?_) rfl (by kernel_rfl) (by kernel_rfl) (by kernel_rfl) (by kernel_rfl) (fun _ _ _ h => h) (Or.inl ⟨by rfl, ?_⟩) (by assumption) ?_
  rotate_left 1
  · (intro w' hSw; obtain ⟨s0, s1⟩ := hSw; go_simp); try with_reducible rfl
  try simp only [Act.put, List.setIfInBounds_toArray, List.set_cons_zero, List.set_cons_succ, Nat.zero_add]
  refine wpAnyY_take (i := 16) (v := ?_) rfl (by kernel_rfl) (by kernel_rfl) (by kernel_rfl) (by kernel_rfl) (fun _ _ _ h => h) (Or.inl ⟨by rfl, ?_⟩) (by assumption) ?_
  rotate_left 1
  · (intro w' hSw; obtain ⟨s0, s1⟩ := hSw; go_simp); try with_reducible rfl
  try simp only [Act.put, List.setIfInBounds_toArray, List.set_cons_zero, List.set_cons_succ, Nat.zero_add]
  refine wpAnyY_take (i := 17) (v := ?_) rfl (by kernel_rfl) (by kernel_rfl) (by kernel_rfl) (by kernel_rfl) (fun _ _ _ h => h) (Or.inl ⟨by rfl, ?_⟩) (by assumption) ?_
  rotate_left 1
  · (intro w' hSw; obtain ⟨s0, s1⟩ := hSw; go_simp); try with_reducible rfl
  try simp only [Act.put, List.setIfInBounds_toArray, List.set_cons_zero, List.set_cons_succ, Nat.zero_add]
  refine wpAnyY_take (i := 18) (v := ?_) rfl (by kernel_rfl) (by kernel_rfl) (by kernel_rfl) (by kernel_rfl) (fun _ _ _ h => h) (Or.inl ⟨by rfl, ?_⟩) (by assumption) ?_
  rotate_left 1
  · (intro w' hSw; obtain ⟨s0, s1⟩ := hSw; go_simp); try with_reducible rfl
  try simp only [Act.put, List.setIfInBounds_toArray, List.set_cons_zero, List.set_cons_succ, Nat.zero_add]
  refine wpAnyY_take (i := 19) (v := ?_) rfl (by kernel_rfl) (by kernel_rfl) (by kernel_rfl) (by kernel_rfl) (fun _ _ _ h => h) (Or.inl ⟨by rfl, ?_⟩) (by assumption) ?_
  rotate_left 1
  · (intro w' hSw; obtain ⟨s0, s1⟩ := hSw; go_simp); try with_reducible rfl
  try simp only [Act.put, List.setIfInBounds_toArray, List.set_cons_zero, List.set_cons_succ, Nat.zero_add]
  refine wpAnyY_one (i := 20) rfl (by kernel_rfl) (fun K hK => ?_)
  go_simp
  obtain ⟨q, hq⟩ : ∃ q, u.heap.size = q := ⟨_, rfl⟩
  obtain ⟨u2, hu2⟩ : ∃ x : World, u.alloc (.cells #[.slice A P.list.length P.list.length, .int .i64 P.ahead.length] 69) = x := ⟨_, rfl⟩
  have HB2 : Hid (Below w.heap.size w u2) := Lib.hid (by rw [← hu2]; exact HU.out.alloc HU.out.size _)
  have HQ2 : Hid (Blk u2 q 69 #[.slice A P.list.length P.list.length, .int .i64 P.ahead.length]) := Lib.hid (by rw [← hu2]; exact Blk.new' hq.symm)
  have HQW : Hid (w.heap.size ≤ q) := Lib.hid (by rw [← hq]; exact HU.out.size)
  (try simp only [List.map_cons, List.map_nil, List.nil_append, List.append_nil])
  (try rw [hu2])
  (try rw [hq])
  clear hu2 hq
  refine hK.out _ _ (fun _ => HSS.out _ HB2.out) ?_
  have hHeld2 := HSS.out _ HB2.out
  clear hK K
  try simp only [Act.put, List.setIfInBounds_toArray, List.set_cons_zero, List.set_cons_succ, Nat.zero_add]
  refine wpAnyY_one0 (i := 21) rfl (by kernel_rfl) (by kernel_rfl) (fun K hK => ?_)
  go_simp
  refine hK.out _ _ ?_
  clear hK K
  try simp only [Act.put, List.setIfInBounds_toArray, List.set_cons_zero, List.set_cons_succ, Nat.zero_add]
  refine wpAnyY_done (by kernel_rfl) ?_ _
  go_wp2
  go_ret
  exact ⟨q, by simp, HQW.out, ⟨A, P.list.length, HQ2.out, Nat.le_refl _, by unfold maxLen; omega, HR.out.keep EModel.stays (Keep.below HB2.out hF) (fun _ h => h)⟩, HB2.out⟩
end Go.Proofs.Ytpjkifbicfcajaa
end
section
/- undo and redo -/
namespace Go.Proofs.Ytpjkifbicfcajaa
open Go Go.RowKit

/-- what undo and redo leave -/
def ToPost (w w' : World) (F : Nat → Prop) (p : Nat) (E : Int × APast) (e : Ending) : Prop :=
  ∃ mv, e = .returned (.tuple #[mv, .int .i64 E.1]) ∧ KeepO (· = p) w w' ∧ IsPast w' F p E.2 ∧ (E.1 ≠ 0 → mv = .agg #[.int .i64 0, .slice none 0 0]) ∧
    (E.1 = 0 → ∃ v l, mv = .agg #[.int .i64 E.2.here.next, v] ∧ OwnM w' w.heap.size v l ∧ l.map LN.n = E.2.here.nodes)

set_option maxRecDepth 100000 in
set_option maxHeartbeats 2000000 in
theorem toNo1_any (p : Nat) (P : APast) (more : Int) (w : World) (F : Nat → Prop) (hF : ∀ b, F b → b < w.heap.size) (hpF : ¬ F p) (h : IsPast w F p P) (hfit : P.Fits) (hm : -1 ≤ more ∧ more ≤ 1)
    (hno : (P.ahead.length : Int) + more < 0) :
    Calls Try.prog 42 #[.pointer (some ⟨p, 0, none⟩), .int .i64 more] w fun e w' => ToPost w w' F p (270, P) e := by
  obtain ⟨A, c, hb, hc1, hc2, hr⟩ := h
  have hnow := now_lt P
  have hlen : P.list.length ≤ 65 := hfit
  have HR := Lib.hid hr
  have hplt := hb.lt
  have HPB := Lib.hid hb
  have HN := Lib.hid (fun (w' : World) (h : Blk w' p 69 #[.slice A P.list.length c, .int .i64 P.ahead.length]) => none_any p P.list.length c A P.ahead.length w' h (by omega))
  have HC := Lib.hid (And.intro hc1 hc2)
  clear hb hr hc1 hc2 hfit
  have n0 : (0 : Int) ≤ P.ahead.length := by omega
  have n1 : (P.ahead.length : Int) < P.list.length := by omega
  have n2 : (P.list.length : Int) ≤ 65 := by omega
  obtain ⟨hm1, hm2⟩ := hm
  have hd : decide ((P.ahead.length : Int) + more < 0) = true := decide_eq_true hno

  go_enter Try.func42, Try.ntmps42
  go_upto_region 1 with fail
  obtain ⟨u0, hu0⟩ : ∃ u : World, w.alloc (.cells #[.int .i64 0, .slice none 0 0] 27) = u := ⟨_, rfl⟩
  have HB0 : Hid (Below w.heap.size w u0) := Lib.hid (by rw [← hu0]; exact (Below.refl w.heap.size w).alloc (Nat.le_refl _) _)
  have HQ0 : Hid (Blk u0 w.heap.size 27 #[.int .i64 0, .slice none 0 0]) := Lib.hid (by rw [← hu0]; exact Blk.new _ _ _)
  have HP0 : Hid (Blk u0 p 69 #[.slice A P.list.length c, .int .i64 P.ahead.length]) := Lib.hid (HPB.out.below HB0.out hplt)
  (try rw [hu0])
  clear hu0
  have p0 := HP0.out.cell 0; have p1 := HP0.out.cell 1
  have q0 := HQ0.out.cell 0; have q1 := HQ0.out.cell 1
  have y0 := HQ0.out.frozen 0; have y1 := HQ0.out.frozen 1
  have hp0lt := HP0.out.lt
  have x1 := HP0.out.frozen 1
  simp at p0 p1 q0 q1
  go_wp2_with (go_at_call 41; refine (HN.out _ HP0.out).mono ?_; rintro _ _ ⟨rfl, rfl⟩)
  go_quiet (fail)
  go_wp2
  have f0 := (((HQ0.out.drewN nq).set_ 0 (.int .i64 0)).set_ 1 (.slice none 0 0))
  have f1 := f0.cell 0; have f2 := f0.cell 1
  simp at f1 f2
  have HBZ := (((below_drewN HB0.out nq).setCell (p := ⟨w.heap.size, 0, none⟩) (Nat.le_refl _) (.int .i64 0)).setCell (p := ⟨w.heap.size, 1, none⟩) (Nat.le_refl _) (.slice none 0 0))
  exact bodyPost_ret (v := .tuple #[.agg #[.int .i64 0, .slice none 0 0], .int .i64 270]) (by simp [results, Try.results42, go_sem, f1, f2]) rfl ⟨_, rfl, (KeepO.refl _ _).below HBZ, ⟨A, c, HPB.out.below HBZ hplt, HC.out.1, HC.out.2, HR.out.keep EModel.stays (Keep.below HBZ hF) (fun _ h => h)⟩, fun _ => rfl, fun e => by cases e⟩

set_option maxRecDepth 100000 in
set_option maxHeartbeats 2000000 in
theorem toNo2_any (p : Nat) (P : APast) (more : Int) (w : World) (F : Nat → Prop) (hF : ∀ b, F b → b < w.heap.size) (hpF : ¬ F p) (h : IsPast w F p P) (hfit : P.Fits) (hm : -1 ≤ more ∧ more ≤ 1)
    (hno : (P.list.length : Int) ≤ P.ahead.length + more) :
    Calls Try.prog 42 #[.pointer (some ⟨p, 0, none⟩), .int .i64 more] w fun e w' => ToPost w w' F p (270, P) e := by
  obtain ⟨A, c, hb, hc1, hc2, hr⟩ := h
  have hnow := now_lt P
  have hlen : P.list.length ≤ 65 := hfit
  have HR := Lib.hid hr
  have hplt := hb.lt
  have HPB := Lib.hid hb
  have HN := Lib.hid (fun (w' : World) (h : Blk w' p 69 #[.slice A P.list.length c, .int .i64 P.ahead.length]) => none_any p P.list.length c A P.ahead.length w' h (by omega))
  have HC := Lib.hid (And.intro hc1 hc2)
  clear hb hr hc1 hc2 hfit
  have n0 : (0 : Int) ≤ P.ahead.length := by omega
  have n1 : (P.ahead.length : Int) < P.list.length := by omega
  have n2 : (P.list.length : Int) ≤ 65 := by omega
  obtain ⟨hm1, hm2⟩ := hm
  have hd : decide ((P.ahead.length : Int) + more < 0) = false := decide_eq_false (by omega)
  have hd2 : decide ((P.ahead.length : Int) + more ≥ P.list.length) = true := decide_eq_true (by omega)

  go_enter Try.func42, Try.ntmps42
  go_upto_region 1 with fail
  obtain ⟨u0, hu0⟩ : ∃ u : World, w.alloc (.cells #[.int .i64 0, .slice none 0 0] 27) = u := ⟨_, rfl⟩
  have HB0 : Hid (Below w.heap.size w u0) := Lib.hid (by rw [← hu0]; exact (Below.refl w.heap.size w).alloc (Nat.le_refl _) _)
  have HQ0 : Hid (Blk u0 w.heap.size 27 #[.int .i64 0, .slice none 0 0]) := Lib.hid (by rw [← hu0]; exact Blk.new _ _ _)
  have HP0 : Hid (Blk u0 p 69 #[.slice A P.list.length c, .int .i64 P.ahead.length]) := Lib.hid (HPB.out.below HB0.out hplt)
  (try rw [hu0])
  clear hu0
  have p0 := HP0.out.cell 0; have p1 := HP0.out.cell 1
  have q0 := HQ0.out.cell 0; have q1 := HQ0.out.cell 1
  have y0 := HQ0.out.frozen 0; have y1 := HQ0.out.frozen 1
  have hp0lt := HP0.out.lt
  have x1 := HP0.out.frozen 1
  simp at p0 p1 q0 q1
  go_wp2_with (go_at_call 41; refine (HN.out _ HP0.out).mono ?_; rintro _ _ ⟨rfl, rfl⟩)
  go_quiet (fail)
  go_wp2
  have f0 := (((HQ0.out.drewN nq).set_ 0 (.int .i64 0)).set_ 1 (.slice none 0 0))
  have f1 := f0.cell 0; have f2 := f0.cell 1
  simp at f1 f2
  have HBZ := (((below_drewN HB0.out nq).setCell (p := ⟨w.heap.size, 0, none⟩) (Nat.le_refl _) (.int .i64 0)).setCell (p := ⟨w.heap.size, 1, none⟩) (Nat.le_refl _) (.slice none 0 0))
  exact bodyPost_ret (v := .tuple #[.agg #[.int .i64 0, .slice none 0 0], .int .i64 270]) (by simp [results, Try.results42, go_sem, f1, f2]) rfl ⟨_, rfl, (KeepO.refl _ _).below HBZ, ⟨A, c, HPB.out.below HBZ hplt, HC.out.1, HC.out.2, HR.out.keep EModel.stays (Keep.below HBZ hF) (fun _ h => h)⟩, fun _ => rfl, fun e => by cases e⟩

set_option maxRecDepth 100000 in
set_option maxHeartbeats 2000000 in
theorem toYes_any (p : Nat) (P P' : APast) (more : Int) (w : World) (F : Nat → Prop) (hF : ∀ b, F b → b < w.heap.size) (hpF : ¬ F p) (h : IsPast w F p P) (hfit : P.Fits) (hm : -1 ≤ more ∧ more ≤ 1)
    (hl : P'.list = P.list) (hn : (P'.ahead.length : Int) = P.ahead.length + more) (hz : ModAll P'.here) :
    Calls Try.prog 42 #[.pointer (some ⟨p, 0, none⟩), .int .i64 more] w fun e w' => ToPost w w' F p (0, P') e := by
  obtain ⟨A, c, hb, hc1, hc2, hr⟩ := h
  have hnow := now_lt P
  have hlen : P.list.length ≤ 65 := hfit
  have HR := Lib.hid hr
  have hplt := hb.lt
  have HPB := Lib.hid hb
  have HN := Lib.hid (fun (w' : World) (h : Blk w' p 69 #[.slice A P.list.length c, .int .i64 P.ahead.length]) => none_any p P.list.length c A P.ahead.length w' h (by omega))
  have HC := Lib.hid (And.intro hc1 hc2)
  clear hb hr hc1 hc2 hfit
  have n0 : (0 : Int) ≤ P.ahead.length := by omega
  have n1 : (P.ahead.length : Int) < P.list.length := by omega
  have n2 : (P.list.length : Int) ≤ 65 := by omega
  obtain ⟨hm1, hm2⟩ := hm
  have hlt' := now_lt P'
  rw [hl] at hlt'
  have hd : decide ((P.ahead.length : Int) + more < 0) = false := decide_eq_false (by omega)
  have hd2 : decide ((P.ahead.length : Int) + more ≥ P.list.length) = false := decide_eq_false (by omega)

  go_enter Try.func42, Try.ntmps42
  go_upto_region 1 with fail
  obtain ⟨u0, hu0⟩ : ∃ u : World, w.alloc (.cells #[.int .i64 0, .slice none 0 0] 27) = u := ⟨_, rfl⟩
  have HB0 : Hid (Below w.heap.size w u0) := Lib.hid (by rw [← hu0]; exact (Below.refl w.heap.size w).alloc (Nat.le_refl _) _)
  have HQ0 : Hid (Blk u0 w.heap.size 27 #[.int .i64 0, .slice none 0 0]) := Lib.hid (by rw [← hu0]; exact Blk.new _ _ _)
  have HP0 : Hid (Blk u0 p 69 #[.slice A P.list.length c, .int .i64 P.ahead.length]) := Lib.hid (HPB.out.below HB0.out hplt)
  (try rw [hu0])
  clear hu0
  have p0 := HP0.out.cell 0; have p1 := HP0.out.cell 1
  have q0 := HQ0.out.cell 0; have q1 := HQ0.out.cell 1
  have y0 := HQ0.out.frozen 0; have y1 := HQ0.out.frozen 1
  have hp0lt := HP0.out.lt
  have x1 := HP0.out.frozen 1
  simp at p0 p1 q0 q1
  go_wp2_with (go_at_call 41; refine (HN.out _ HP0.out).mono ?_; rintro _ _ ⟨rfl, rfl⟩)
  go_quiet (fail)
  have HWE : Hid (∃ z, (u0.drewN nq).setCell ⟨p, 1, none⟩ (.int .i64 (P.ahead.length + more)) = z) := Lib.hid ⟨_, rfl⟩
  go_upto_region 6 with fail
  obtain ⟨w2, hu⟩ := HWE.out
  have HK2 : Hid (KeepO (· = p) w w2) := Lib.hid (by rw [← hu]; exact ((KeepO.refl (fun b => b = p) w).below (below_drewN HB0.out nq)).set_ rfl _ _)
  have HP2 : Hid (IsPast w2 F p P') := Lib.hid (by
    refine ⟨A, c, ?_, by rw [hl]; exact HC.out.1, HC.out.2, ?_⟩
    · rw [← hu, hn, hl]; simpa using (HP0.out.drewN nq).set_ 1 (.int .i64 (P.ahead.length + more))
    · rw [hl, ← hu]
      refine HR.out.keep EModel.stays (fun q hq => ?_) (fun _ h => h)
      refine (World.cell?_of_block (Below.heap_setCell _ _ _ _ (fun e => hpF ?_))).trans ((below_drewN HB0.out nq).cell (hF _ hq))
      have e : q.block = p := e
      rw [← e]; exact hq)
  have HQ2 : Hid (Blk w2 w.heap.size 27 #[.int .i64 0, .slice none 0 0]) := Lib.hid (by rw [← hu]; exact (HQ0.out.drewN nq).far (by show w.heap.size ≠ p; omega) _)
  (try rw [hu])
  clear HWE hu HP0 HQ0 p0 p1 q0 q1 y0 y1 hp0lt x1
  go_wp2_with fail
  refine (now_any p P' w2 F (fun b hb => Nat.lt_of_lt_of_le (hF b hb) HK2.out.size) HP2.out hz).mono ?_
  rintro _ w3 ⟨v, rfl, l, hown, hmap, hb3⟩
  have HO3 := Lib.hid hown; have HMAP := Lib.hid hmap
  have HB3 := Lib.hid hb3
  have HQ3 := Lib.hid (HQ2.out.below hb3 HQ2.out.lt)
  have HS3 : Hid (w.heap.size < w2.heap.size ∧ w2.heap.size ≤ w3.heap.size) := Lib.hid ⟨HQ2.out.lt, hb3.size⟩
  obtain ⟨Av, cv, rfl⟩ := own_shape hown.row
  clear hown hmap hb3
  have q0 := HQ3.out.cell 0; have q1 := HQ3.out.cell 1
  have y0 := HQ3.out.frozen 0; have y1 := HQ3.out.frozen 1
  have hq3lt := HQ3.out.lt
  simp at q0 q1
  go_wp2
  have f0 := ((HQ3.out.set_ 0 (.int .i64 P'.here.next)).set_ 1 (.slice Av l.length cv))
  have f1 := f0.cell 0; have f2 := f0.cell 1
  simp at f1 f2
  have far : ∀ b, b < w.heap.size → ((w3.setCell ⟨w.heap.size, 0, none⟩ (.int .i64 P'.here.next)).setCell ⟨w.heap.size, 1, none⟩ (.slice Av l.length cv)).heap[b]? = w3.heap[b]? := fun b hb =>
    (Below.heap_setCell _ _ _ _ (by show b ≠ w.heap.size; omega)).trans (Below.heap_setCell _ _ _ _ (by show b ≠ w.heap.size; omega))
  have hk3 := HK2.out.below HB3.out
  refine bodyPost_ret (v := .tuple #[.agg #[.int .i64 P'.here.next, .slice Av l.length cv], .int .i64 0]) (by simp [results, Try.results42, go_sem, f1, f2]) rfl ⟨_, rfl, ⟨hk3.os, hk3.tape, hk3.output, by simpa using hk3.size, fun k hk hn => (far k hk).trans (hk3.block k hk hn)⟩, ?_, fun e => absurd rfl e, fun _ => ⟨_, l, rfl, ?_, HMAP.out⟩⟩
  · have h3 := HP2.out.below HB3.out (fun b hb => Nat.lt_of_lt_of_le (hF b hb) HK2.out.size)
    exact h3.keep (fun q hq => World.cell?_of_block (far _ (hF _ hq))) (fun _ h => h) (far p hplt)
  · refine (HO3.out.keep (fun b h1 _ => ?_)).weaken (by have := HS3.out; omega)
    have h2 := HS3.out
    exact (Below.heap_setCell _ _ _ _ (by show b ≠ w.heap.size; omega)).trans (Below.heap_setCell _ _ _ _ (by show b ≠ w.heap.size; omega))

theorem ToPost.shape {w w' : World} {E : Int × APast} {mv : Value} (h1 : E.1 ≠ 0 → mv = .agg #[.int .i64 0, .slice none 0 0]) (h2 : E.1 = 0 → ∃ v l, mv = .agg #[.int .i64 E.2.here.next, v] ∧ OwnM w' w.heap.size v l ∧ l.map LN.n = E.2.here.nodes) : ∃ a A n c, mv = .agg #[.int .i64 a, .slice A n c] := by
  by_cases hE : E.1 = 0
  · obtain ⟨v, l, rfl, ho, _⟩ := h2 hE
    obtain ⟨A, c, rfl⟩ := own_shape ho.row
    exact ⟨_, _, _, _, rfl⟩
  · exact ⟨0, none, 0, 0, h1 hE⟩

set_option maxRecDepth 100000 in
set_option maxHeartbeats 2000000 in
theorem undo_any (p : Nat) (P : APast) (w : World) (F : Nat → Prop) (hF : ∀ b, F b → b < w.heap.size) (hpF : ¬ F p) (h : IsPast w F p P) (hfit : P.Fits) (hz : ∀ m ∈ P.list, ModAll m) :
    Calls Try.prog 18 #[.pointer (some ⟨p, 0, none⟩)] w fun e w' => ToPost w w' F p (undoP P) e := by
  have HT : Hid (∀ u0, Below w.heap.size w u0 → Calls Try.prog 42 #[.pointer (some ⟨p, 0, none⟩), .int .i64 (-1)] u0 fun e w' => ToPost u0 w' F p (undoP P) e) := Lib.hid (by
    intro u0 hb
    have hF' : ∀ b, F b → b < u0.heap.size := fun b hx => Nat.lt_of_lt_of_le (hF b hx) hb.size
    have h' := h.below hb hF
    unfold undoP
    cases hl : P.ahead.getLast? with
    | none =>
      have h0 : P.ahead = [] := List.getLast?_eq_none_iff.1 hl
      exact toNo1_any p P (-1) u0 F hF' hpF h' hfit (by omega) (by rw [h0]; simp)
    | some m =>
      obtain ⟨ys, hy⟩ := List.getLast?_eq_some_iff.1 hl
      refine toYes_any p P _ (-1) u0 F hF' hpF h' hfit (by omega) ?_ ?_ ?_
      · unfold APast.list; simp [hy]
      · simp [hy]; omega
      · exact hz m (by unfold APast.list; simp [hy]))
  have hplt := h.lt
  have HP := Lib.hid h
  obtain ⟨E, hE⟩ : ∃ E, undoP P = E := ⟨_, rfl⟩
  rw [hE] at HT ⊢
  clear hE h hz hfit
  go_enter Try.func18, Try.ntmps18
  go_upto_region 1 with fail
  obtain ⟨u0, hu0⟩ : ∃ u : World, w.alloc (.cells #[.int .i64 0, .slice none 0 0] 27) = u := ⟨_, rfl⟩
  have HB0 : Hid (Below w.heap.size w u0) := Lib.hid (by rw [← hu0]; exact (Below.refl w.heap.size w).alloc (Nat.le_refl _) _)
  have HQ0 : Hid (Blk u0 w.heap.size 27 #[.int .i64 0, .slice none 0 0]) := Lib.hid (by rw [← hu0]; exact Blk.new _ _ _)
  (try rw [hu0])
  clear hu0
  go_wp2_with fail
  refine (HT.out u0 HB0.out).mono ?_
  rintro _ w1 ⟨mv, rfl, hk, hp, h1, h2⟩
  have HQ1 := Lib.hid (hk.blk HQ0.out (by show w.heap.size ≠ p; omega))
  have HS0 : Hid (w.heap.size < u0.heap.size) := Lib.hid HQ0.out.lt
  have HK := Lib.hid hk; have HP1 := Lib.hid hp; have H1 := Lib.hid h1; have H2 := Lib.hid h2
  obtain ⟨a, A, n, c, rfl⟩ := ToPost.shape h1 h2
  clear hk hp h1 h2
  have q0 := HQ1.out.cell 0; have q1 := HQ1.out.cell 1
  have y0 := HQ1.out.frozen 0; have y1 := HQ1.out.frozen 1
  have hq1lt := HQ1.out.lt
  simp at q0 q1
  go_wp2
  have f0 := ((HQ1.out.set_ 0 (.int .i64 a)).set_ 1 (.slice A n c))
  have f1 := f0.cell 0; have f2 := f0.cell 1
  simp at f1 f2
  have far : ∀ b, b ≠ w.heap.size → ((w1.setCell ⟨w.heap.size, 0, none⟩ (.int .i64 a)).setCell ⟨w.heap.size, 1, none⟩ (.slice A n c)).heap[b]? = w1.heap[b]? := fun b hb => (Below.heap_setCell _ _ _ _ hb).trans (Below.heap_setCell _ _ _ _ hb)
  have hb0 := HB0.out
  have hk := HK.out
  refine bodyPost_ret (v := .tuple #[.agg #[.int .i64 a, .slice A n c], .int .i64 E.1]) (by simp [results, Try.results18, go_sem, f1, f2]) rfl ⟨_, rfl, ⟨hk.os.trans hb0.os, hk.tape.trans hb0.tape, hk.output.trans hb0.output, by have := hk.size; have := hb0.size; simp; omega, fun k hkl hn => (far k (by omega)).trans ((hk.block k (by have := hb0.size; omega) hn).trans (hb0.block k hkl))⟩, ?_, H1.out, fun hE => ?_⟩
  · exact HP1.out.keep (fun q hq => World.cell?_of_block (far _ (by have := hF _ hq; omega))) (fun _ h => h) (far p (by omega))
  · obtain ⟨v, l, e, ho, hm⟩ := H2.out hE
    refine ⟨v, l, e, ?_, hm⟩
    exact (ho.keep (fun b h1 _ => far b (by have := HS0.out; omega))).weaken (by have := HS0.out; omega)

set_option maxRecDepth 100000 in
set_option maxHeartbeats 2000000 in
theorem redo_any (p : Nat) (P : APast) (w : World) (F : Nat → Prop) (hF : ∀ b, F b → b < w.heap.size) (hpF : ¬ F p) (h : IsPast w F p P) (hfit : P.Fits) (hz : ∀ m ∈ P.list, ModAll m) :
    Calls Try.prog 21 #[.pointer (some ⟨p, 0, none⟩)] w fun e w' => ToPost w w' F p (redoP P) e := by
  have HT : Hid (∀ u0, Below w.heap.size w u0 → Calls Try.prog 42 #[.pointer (some ⟨p, 0, none⟩), .int .i64 (1)] u0 fun e w' => ToPost u0 w' F p (redoP P) e) := Lib.hid (by
    intro u0 hb
    have hF' : ∀ b, F b → b < u0.heap.size := fun b hx => Nat.lt_of_lt_of_le (hF b hx) hb.size
    have h' := h.below hb hF
    unfold redoP
    cases hl : P.behind with
    | nil =>
      have := P.list_len
      rw [hl] at this
      exact toNo2_any p P 1 u0 F hF' hpF h' hfit (by omega) (by rw [this]; simp)
    | cons m r =>
      refine toYes_any p P _ 1 u0 F hF' hpF h' hfit (by omega) ?_ ?_ ?_
      · unfold APast.list; simp [hl]
      · simp
      · exact hz m (by unfold APast.list; simp [hl]))
  have hplt := h.lt
  have HP := Lib.hid h
  obtain ⟨E, hE⟩ : ∃ E, redoP P = E := ⟨_, rfl⟩
  rw [hE] at HT ⊢
  clear hE h hz hfit
  go_enter Try.func21, Try.ntmps21
  go_upto_region 1 with fail
  obtain ⟨u0, hu0⟩ : ∃ u : World, w.alloc (.cells #[.int .i64 0, .slice none 0 0] 27) = u := ⟨_, rfl⟩
  have HB0 : Hid (Below w.heap.size w u0) := Lib.hid (by rw [← hu0]; exact (Below.refl w.heap.size w).alloc (Nat.le_refl _) _)
  have HQ0 : Hid (Blk u0 w.heap.size 27 #[.int .i64 0, .slice none 0 0]) := Lib.hid (by rw [← hu0]; exact Blk.new _ _ _)
  (try rw [hu0])
  clear hu0
  go_wp2_with fail
  refine (HT.out u0 HB0.out).mono ?_
  rintro _ w1 ⟨mv, rfl, hk, hp, h1, h2⟩
  have HQ1 := Lib.hid (hk.blk HQ0.out (by show w.heap.size ≠ p; omega))
  have HS0 : Hid (w.heap.size < u0.heap.size) := Lib.hid HQ0.out.lt
  have HK := Lib.hid hk; have HP1 := Lib.hid hp; have H1 := Lib.hid h1; have H2 := Lib.hid h2
  obtain ⟨a, A, n, c, rfl⟩ := ToPost.shape h1 h2
  clear hk hp h1 h2
  have q0 := HQ1.out.cell 0; have q1 := HQ1.out.cell 1
  have y0 := HQ1.out.frozen 0; have y1 := HQ1.out.frozen 1
  have hq1lt := HQ1.out.lt
  simp at q0 q1
  go_wp2
  have f0 := ((HQ1.out.set_ 0 (.int .i64 a)).set_ 1 (.slice A n c))
  have f1 := f0.cell 0; have f2 := f0.cell 1
  simp at f1 f2
  have far : ∀ b, b ≠ w.heap.size → ((w1.setCell ⟨w.heap.size, 0, none⟩ (.int .i64 a)).setCell ⟨w.heap.size, 1, none⟩ (.slice A n c)).heap[b]? = w1.heap[b]? := fun b hb => (Below.heap_setCell _ _ _ _ hb).trans (Below.heap_setCell _ _ _ _ hb)
  have hb0 := HB0.out
  have hk := HK.out
  refine bodyPost_ret (v := .tuple #[.agg #[.int .i64 a, .slice A n c], .int .i64 E.1]) (by simp [results, Try.results21, go_sem, f1, f2]) rfl ⟨_, rfl, ⟨hk.os.trans hb0.os, hk.tape.trans hb0.tape, hk.output.trans hb0.output, by have := hk.size; have := hb0.size; simp; omega, fun k hkl hn => (far k (by omega)).trans ((hk.block k (by have := hb0.size; omega) hn).trans (hb0.block k hkl))⟩, ?_, H1.out, fun hE => ?_⟩
  · exact HP1.out.keep (fun q hq => World.cell?_of_block (far _ (by have := hF _ hq; omega))) (fun _ h => h) (far p (by omega))
  · obtain ⟨v, l, e, ho, hm⟩ := H2.out hE
    refine ⟨v, l, e, ?_, hm⟩
    exact (ho.keep (fun b h1 _ => far b (by have := HS0.out; omega))).weaken (by have := HS0.out; omega)
end Go.Proofs.Ytpjkifbicfcajaa
end
