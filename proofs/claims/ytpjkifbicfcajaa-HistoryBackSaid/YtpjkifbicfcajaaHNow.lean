import Derived.Test.YtpjkifbicfcajaaPastP
import Derived.Lib.QuietBelow
import Derived.Test.YtpjkifbicfcajaaHTwin
import Derived.Test.YtpjkifbicfcajaaHMem
set_option linter.unusedSimpArgs false
set_option linter.unusedVariables false
section
/- a past that is somebody's; how many are ahead and behind -/
namespace Go.Proofs.Ytpjkifbicfcajaa
open Go Go.RowKit

set_option maxRecDepth 100000 in
theorem none_any (p n c : Nat) (A : Option Addr) (now : Int) (w : World) (hb : Blk w p 69 #[.slice A n c, .int .i64 now]) (hn : 0 < n) :
    Calls Try.prog 41 #[.pointer (some ⟨p, 0, none⟩)] w fun e w' => e = .returned (.bool false) ∧ w = w' := by
  have b0 := hb.cell 0
  have hlt := hb.lt
  simp at b0
  have hn' : ¬ (n : Int) = 0 := by omega
  go_enter Try.func41, Try.ntmps41
  go_wp2
  go_ret
  exact ⟨by simp; omega, rfl⟩
set_option maxRecDepth 100000 in
theorem depth_any (p n c now : Nat) (A : Option Addr) (w : World) (hb : Blk w p 69 #[.slice A n c, .int .i64 now]) (hn : now < n) (hm : n ≤ 65) :
    Calls Try.prog 33 #[.pointer (some ⟨p, 0, none⟩)] w fun e w' => e = .returned (.tuple #[.int .i64 now, .int .i64 ((n - 1 - now : Nat) : Int)]) ∧ Below w.heap.size w w' := by
  have HN := fun w h => none_any p n c A now w h (by omega)
  have b0 := hb.cell 0; have b1 := hb.cell 1
  have hlt := hb.lt
  simp at b0 b1
  go_enter Try.func33, Try.ntmps33
  go_wp2_with (go_at_call 41; refine (HN _ hb).mono ?_; rintro _ _ ⟨rfl, rfl⟩)
  go_quiet (fail)
  go_wp2
  refine bodyPost_ret (v := .tuple #[.int .i64 now, .int .i64 ((n - 1 - now : Nat) : Int)]) (by simp [results, Try.results33, go_sem]; omega) rfl ⟨rfl, below_drewN (Below.refl _ _) _⟩
set_option maxRecDepth 100000 in
theorem hindex_any (n : Int) (cnt : Nat) (w : World) (hn : InR n) (hc : 0 < cnt) (hm : cnt ≤ 9223372036854775807) :
    Calls Try.prog 15 #[.int .i64 n, .int .i64 cnt] w fun e w' => ∃ k : Nat, k < cnt ∧ e = .returned (.int .i64 k) ∧ w = w' := by
  have hc0 : ¬ (cnt : Int) = 0 := by omega
  have h1 : (n.tmod cnt).natAbs < cnt := by rw [Int.natAbs_tmod]; exact Nat.mod_lt _ (by simpa using hc)
  obtain ⟨r, hr⟩ : ∃ r, n.tmod (cnt : Int) = r := ⟨_, rfl⟩
  have hr' := Lib.hid hr
  rw [hr] at h1
  go_enter Try.func15, Try.ntmps15
  by_cases h0 : r < 0
  · go_wp2
    go_ret
    exact ⟨r.natAbs, h1, by go_num, rfl⟩
  · go_wp2
    go_ret
    exact ⟨r.natAbs, h1, by go_num, rfl⟩
end Go.Proofs.Ytpjkifbicfcajaa
end
section
/- a past that is made, copied; the model that is now -/
namespace Go.Proofs.Ytpjkifbicfcajaa
open Go Go.RowKit

theorem now_lt (P : APast) : P.ahead.length < P.list.length := by rw [P.list_len]; omega
theorem now_here (P : APast) : P.list[P.ahead.length]'(now_lt P) = P.here := by
  have := P.list_here
  rw [List.getElem?_eq_getElem (now_lt P)] at this
  injection this

set_option maxRecDepth 100000 in
set_option maxHeartbeats 2000000 in
theorem now_any (p : Nat) (P : APast) (w : World) (F : Nat → Prop) (hF : ∀ b, F b → b < w.heap.size) (h : IsPast w F p P) (hz : ModAll P.here) :
    Calls Try.prog 32 #[.pointer (some ⟨p, 0, none⟩)] w fun e w' => ∃ v, e = .returned (.agg #[.int .i64 P.here.next, v]) ∧ ∃ l, OwnM w' w.heap.size v l ∧ l.map LN.n = P.here.nodes ∧ Below w.heap.size w w' := by
  obtain ⟨A, c, hb, hc1, hc2, hr⟩ := h
  have hnow := now_lt P
  obtain ⟨b, off, S, cs, rfl, hbF, d0, d1, hs1, hs2, hrow⟩ := model_at hr hnow
  rw [now_here P] at d0 d1 hs1 hrow
  have HROW := Lib.hid hrow
  have hbw := hF b hbF
  have hplt := hb.lt
  have HPB := Lib.hid hb
  have HN := Lib.hid (fun (w' : World) (h : Blk w' p 69 #[.slice (some ⟨b, off, none⟩) P.list.length c, .int .i64 P.ahead.length]) => none_any p P.list.length c (some ⟨b, off, none⟩) P.ahead.length w' h (by omega))
  have HSS : Hid (∀ w', Below w.heap.size w w' → (fun w' : World => w'.cell? ⟨p, 0, none⟩ = some (.slice (some ⟨b, off, none⟩) P.list.length c) ∧ w'.cell? ⟨p, 1, none⟩ = some (.int .i64 P.ahead.length) ∧ w'.cell? ⟨b, off + P.ahead.length * 2, none⟩ = some (.int .i64 P.here.next) ∧ w'.cell? ⟨b, off + P.ahead.length * 2 + 1, none⟩ = some (.slice S P.here.nodes.length cs)) w') := Lib.hid (fun w' hb' => by
    have hb2 := hb.below hb' hplt
    have p0 := hb2.cell 0; have p1 := hb2.cell 1
    simp at p0 p1
    exact ⟨p0, p1, (hb'.cell (p := ⟨b, _, none⟩) hbw).trans d0, (hb'.cell (p := ⟨b, _, none⟩) hbw).trans d1⟩)
  clear hb hr hrow d0 d1 hs1 hs2
  have n0 : (0 : Int) ≤ P.ahead.length := by omega
  have n1 : (P.ahead.length : Int) < P.list.length := by omega
  go_enter Try.func32, Try.ntmps32
  go_upto_region 1 with fail
  obtain ⟨u0, hu0⟩ : ∃ u : World, w.alloc (.cells #[.int .i64 0, .slice none 0 0] 27) = u := ⟨_, rfl⟩
  have HB0 : Hid (Below w.heap.size w u0) := Lib.hid (by rw [← hu0]; exact (Below.refl w.heap.size w).alloc (Nat.le_refl _) _)
  have HR0 : Hid (Blk u0 w.heap.size 27 #[.int .i64 0, .slice none 0 0]) := Lib.hid (by rw [← hu0]; exact Blk.new _ _ _)
  (try rw [hu0])
  clear hu0
  go_wp2_with (go_at_call 41; refine (HN.out _ (HPB.out.below HB0.out hplt)).mono ?_; rintro _ _ ⟨rfl, rfl⟩)
  obtain ⟨u, hu⟩ : ∃ u : World, u0.drew = u := ⟨_, rfl⟩
  have HU : Hid (Below u0.heap.size u0 u) := Lib.hid (by rw [← hu]; exact (Below.refl _ _).drew)
  have HBU := Lib.hid (HB0.out.trans (HU.out.mono HB0.out.size))
  have HRU := Lib.hid (HR0.out.below HU.out HR0.out.lt)
  refine wp_region_Y (S := (fun w' : World => w'.cell? ⟨p, 0, none⟩ = some (.slice (some ⟨b, off, none⟩) P.list.length c) ∧ w'.cell? ⟨p, 1, none⟩ = some (.int .i64 P.ahead.length) ∧ w'.cell? ⟨b, off + P.ahead.length * 2, none⟩ = some (.int .i64 P.here.next) ∧ w'.cell? ⟨b, off + P.ahead.length * 2 + 1, none⟩ = some (.slice S P.here.nodes.length cs))) 11 (by kernel_rfl) (by rw [hu]; exact HSS.out _ HBU.out) (fun hHeld => ?_)
  rw [hu] at hHeld ⊢
  clear hu HU HB0 HR0
  refine wpAnyY_take (i := 0) (v := ?_) rfl (by kernel_rfl) (by kernel_rfl) (by kernel_rfl) (by kernel_rfl) (fun _ _ _ h => h) (Or.inl ⟨by rfl, ?_⟩) (by assumption) ?_
  rotate_left 1
  · (intro w' hSw; obtain ⟨s0, s1, s2, s3⟩ := hSw; go_simp); try with_reducible rfl
  try simp only [Act.put, List.setIfInBounds_toArray, List.set_cons_zero, List.set_cons_succ, Nat.zero_add]
  refine wpAnyY_take (i := 1) (v := ?_) rfl (by kernel_rfl) (by kernel_rfl) (by kernel_rfl) (by kernel_rfl) (fun _ _ _ h => h) (Or.inl ⟨by rfl, ?_⟩) (by assumption) ?_
  rotate_left 1
  · (intro w' hSw; obtain ⟨s0, s1, s2, s3⟩ := hSw; go_simp); try with_reducible rfl
  try simp only [Act.put, List.setIfInBounds_toArray, List.set_cons_zero, List.set_cons_succ, Nat.zero_add]
  refine wpAnyY_take (i := 2) (v := ?_) rfl (by kernel_rfl) (by kernel_rfl) (by kernel_rfl) (by kernel_rfl) (fun _ _ _ h => h) (Or.inl ⟨by rfl, ?_⟩) (by assumption) ?_
  rotate_left 1
  · (intro w' hSw; obtain ⟨s0, s1, s2, s3⟩ := hSw; go_simp); try with_reducible rfl
  try simp only [Act.put, List.setIfInBounds_toArray, List.set_cons_zero, List.set_cons_succ, Nat.zero_add]
  refine wpAnyY_take (i := 3) (v := ?_) rfl (by kernel_rfl) (by kernel_rfl) (by kernel_rfl) (by kernel_rfl) (fun _ _ _ h => h) (Or.inl ⟨by rfl, ?_⟩) (by assumption) ?_
  rotate_left 1
  · (intro w' hSw; obtain ⟨s0, s1, s2, s3⟩ := hSw; go_simp); try with_reducible rfl
  try simp only [Act.put, List.setIfInBounds_toArray, List.set_cons_zero, List.set_cons_succ, Nat.zero_add]
  refine wpAnyY_take (i := 4) (v := ?_) rfl (by kernel_rfl) (by kernel_rfl) (by kernel_rfl) (by kernel_rfl) (fun _ _ _ h => h) (Or.inl ⟨by rfl, ?_⟩) (by assumption) ?_
  rotate_left 1
  · (intro w' hSw; obtain ⟨s0, s1, s2, s3⟩ := hSw; go_simp); try with_reducible rfl
  try simp only [Act.put, List.setIfInBounds_toArray, List.set_cons_zero, List.set_cons_succ, Nat.zero_add]
  refine wpAnyY_take (i := 5) (v := ?_) rfl (by kernel_rfl) (by kernel_rfl) (by kernel_rfl) (by kernel_rfl) (fun _ _ _ h => h) (Or.inl ⟨by rfl, ?_⟩) (by assumption) ?_
  rotate_left 1
  · (intro w' hSw; obtain ⟨s0, s1, s2, s3⟩ := hSw; go_simp); try with_reducible rfl
  try simp only [Act.put, List.setIfInBounds_toArray, List.set_cons_zero, List.set_cons_succ, Nat.zero_add]
  refine wpAnyY_take (i := 6) (v := ?_) rfl (by kernel_rfl) (by kernel_rfl) (by kernel_rfl) (by kernel_rfl) (fun _ _ _ h => h) (Or.inl ⟨by rfl, ?_⟩) (by assumption) ?_
  rotate_left 1
  · (intro w' hSw; obtain ⟨s0, s1, s2, s3⟩ := hSw; go_simp); try with_reducible rfl
  try simp only [Act.put, List.setIfInBounds_toArray, List.set_cons_zero, List.set_cons_succ, Nat.zero_add]
  refine wpAnyY_take (i := 7) (v := ?_) rfl (by kernel_rfl) (by kernel_rfl) (by kernel_rfl) (by kernel_rfl) (fun _ _ _ h => h) (Or.inl ⟨by rfl, ?_⟩) (by assumption) ?_
  rotate_left 1
  · (intro w' hSw; obtain ⟨s0, s1, s2, s3⟩ := hSw; go_simp); try with_reducible rfl
  try simp only [Act.put, List.setIfInBounds_toArray, List.set_cons_zero, List.set_cons_succ, Nat.zero_add]
  refine wpAnyY_take (i := 8) (v := ?_) rfl (by kernel_rfl) (by kernel_rfl) (by kernel_rfl) (by kernel_rfl) (fun _ _ _ h => h) (Or.inl ⟨by rfl, ?_⟩) (by assumption) ?_
  rotate_left 1
  · (intro w' hSw; obtain ⟨s0, s1, s2, s3⟩ := hSw; go_simp); try with_reducible rfl
  try simp only [Act.put, List.setIfInBounds_toArray, List.set_cons_zero, List.set_cons_succ, Nat.zero_add]
  refine wpAnyY_take (i := 9) (v := ?_) rfl (by kernel_rfl) (by kernel_rfl) (by kernel_rfl) (by kernel_rfl) (fun _ _ _ h => h) (Or.inl ⟨by rfl, ?_⟩) (by assumption) ?_
  rotate_left 1
  · (intro w' hSw; obtain ⟨s0, s1, s2, s3⟩ := hSw; go_simp); try with_reducible rfl
  try simp only [Act.put, List.setIfInBounds_toArray, List.set_cons_zero, List.set_cons_succ, Nat.zero_add]
  refine wpAnyY_one (i := 10) rfl (by kernel_rfl) (fun K hK => ?_)
  go_simp
  refine (htwin_any S cs P.here u F (fun b hb => Nat.lt_of_lt_of_le (hF b hb) HBU.out.size) (HROW.out.keep ENode.stays (Keep.below HBU.out hF) (fun _ h => h)) (fun x hx => (hz.1 x hx).2.1) hz.2.2).mono ?_
  rintro _ w1 ⟨v, rfl, l, hown, hmap, hb1⟩
  have HO1 := Lib.hid hown; have HMAP := Lib.hid hmap
  have HB1 := Lib.hid (HBU.out.trans (hb1.mono HBU.out.size))
  have HR1 := Lib.hid (HRU.out.below hb1 HRU.out.lt)
  have HW1 : Hid (w.heap.size < u.heap.size) := Lib.hid HRU.out.lt
  obtain ⟨Av, cv, rfl⟩ := own_shape hown.row
  clear hown hmap hb1
  go_simp
  refine hK.out _ _ (fun _ => HSS.out _ HB1.out) ?_
  have r0 := HR1.out.cell 0; have r1 := HR1.out.cell 1
  have t0 := HR1.out.frozen 0; have t1 := HR1.out.frozen 1
  simp at r0 r1
  clear hK K
  try simp only [Act.put, List.setIfInBounds_toArray, List.set_cons_zero, List.set_cons_succ, Nat.zero_add]
  refine wpAnyY_one0 (i := 11) rfl (by kernel_rfl) (by kernel_rfl) (fun K hK => ?_)
  go_simp
  refine hK.out _ _ ?_
  clear r0 r1 t0 t1
  clear hK K
  try simp only [Act.put, List.setIfInBounds_toArray, List.set_cons_zero, List.set_cons_succ, Nat.zero_add]
  refine wpAnyY_done (by kernel_rfl) ?_ _
  go_wp2
  have hyS := (HR1.out.set_ 0 (.int .i64 P.here.next)).set_ 1 (.slice Av l.length cv)
  have f0 := hyS.cell 0; have f1 := hyS.cell 1
  simp at f0 f1
  have HBW := Lib.hid ((HB1.out.setCell (p := ⟨w.heap.size, 0, none⟩) (Nat.le_refl _) (.int .i64 P.here.next)).setCell (p := ⟨w.heap.size, 1, none⟩) (Nat.le_refl _) (.slice Av l.length cv))
  refine bodyPost_ret (v := .agg #[.int .i64 P.here.next, .slice Av l.length cv]) (by simp [results, Try.results32, go_sem, f0, f1]) rfl ⟨_, rfl, l, ?_, HMAP.out, HBW.out⟩
  refine (HO1.out.keep (fun b h1 _ => ?_)).weaken (by have := HW1.out; omega)
  have h2 := HW1.out
  exact (Below.heap_setCell _ _ _ _ (by show b ≠ w.heap.size; omega)).trans (Below.heap_setCell _ _ _ _ (by show b ≠ w.heap.size; omega))
end Go.Proofs.Ytpjkifbicfcajaa
end
