import Derived.Test.YtpjkifbicfcajaaRowM
import Derived.Test.YtpjkifbicfcajaaTwinR
import Derived.Test.YtpjkifbicfcajaaARight
set_option linter.unusedSimpArgs false
set_option linter.unusedVariables false
section
/- the document's past, made -/
namespace Go.Proofs.Ytpjkifbicfcajaa
open Go Go.RowKit

set_option maxRecDepth 100000 in
set_option maxHeartbeats 4000000 in
theorem rnew_any (A : Option Addr) (c : Nat) (m : AModel) (w : World) (F : Nat → Prop) (hF : ∀ b, F b → b < w.heap.size) (h : RowOf 7 ENode w F A m.nodes) (hz : ModAll m) :
    Calls Try.prog 13 #[.agg #[.int .i64 m.next, .slice A m.nodes.length c]] w fun e w' => ∃ q, e = .returned (.tuple #[.pointer (some ⟨q, 0, none⟩), .bool (rightM m)]) ∧ Below w.heap.size w w' ∧ w.heap.size ≤ q ∧ IsRPast w' (fun b => w.heap.size ≤ b ∧ b < q) q ⟨[], m, []⟩ := by
  have HH := Lib.hid h
  clear h
  go_enter Try.func13, Try.ntmps13
  go_upto_region 1 with fail
  obtain ⟨u0, hu0⟩ : ∃ u : World, w.alloc (.cells #[.int .i64 m.next, .slice A m.nodes.length c] 27) = u := ⟨_, rfl⟩
  have HB0 : Hid (Below w.heap.size w u0) := Lib.hid (by rw [← hu0]; exact (Below.refl w.heap.size w).alloc (Nat.le_refl _) _)
  have HM0 : Hid (Blk u0 w.heap.size 27 #[.int .i64 m.next, .slice A m.nodes.length c]) := Lib.hid (by rw [← hu0]; exact Blk.new _ _ _)
  (try rw [hu0])
  clear hu0
  have HSS : Hid (∀ w', Blk w' w.heap.size 27 #[.int .i64 m.next, .slice A m.nodes.length c] → (fun w' : World => w'.cell? ⟨w.heap.size, 0, none⟩ = some (.int .i64 m.next) ∧ w'.cell? ⟨w.heap.size, 1, none⟩ = some (.slice A m.nodes.length c)) w') := Lib.hid (fun w' h1 => by
    have m0 := h1.cell 0; have m1 := h1.cell 1
    simp at m0 m1
    exact ⟨m0, m1⟩)
  obtain ⟨u, hu⟩ : ∃ u : World, u0.drew = u := ⟨_, rfl⟩
  have HU : Hid (Below u0.heap.size u0 u) := Lib.hid (by rw [← hu]; exact (Below.refl _ _).drew)
  have HBU := Lib.hid (HB0.out.trans (HU.out.mono HB0.out.size))
  have HMU := Lib.hid (HM0.out.below HU.out HM0.out.lt)
  refine wp_region_Y (S := (fun w' : World => w'.cell? ⟨w.heap.size, 0, none⟩ = some (.int .i64 m.next) ∧ w'.cell? ⟨w.heap.size, 1, none⟩ = some (.slice A m.nodes.length c))) 7 (by kernel_rfl) (by rw [hu]; exact HSS.out _ HMU.out) (fun hHeld => ?_)
  rw [hu] at hHeld ⊢
  clear hu HU HB0 HM0
  refine wpAnyY_take (i := 0) (v := ?_) rfl (by kernel_rfl) (by kernel_rfl) (by kernel_rfl) (by kernel_rfl) (fun _ _ _ h => h) (Or.inl ⟨by rfl, ?_⟩) (by assumption) ?_
  rotate_left 1
  · (intro w' hSw; obtain ⟨s0, s1⟩ := hSw; go_simp); try with_reducible rfl
  try simp only [Act.put, List.setIfInBounds_toArray, List.set_cons_zero, List.set_cons_succ, Nat.zero_add]
  refine wpAnyY_take (i := 4) (v := ?_) rfl (by kernel_rfl) (by kernel_rfl) (by kernel_rfl) (by kernel_rfl) (fun _ _ _ h => h) (Or.inl ⟨by rfl, ?_⟩) (by assumption) ?_
  rotate_left 1
  · (intro w' hSw; obtain ⟨s0, s1⟩ := hSw; go_simp); try with_reducible rfl
  try simp only [Act.put, List.setIfInBounds_toArray, List.set_cons_zero, List.set_cons_succ, Nat.zero_add]
  refine wpAnyY_one (i := 1) rfl (by kernel_rfl) (fun K hK => ?_)
  go_simp
  refine (twinR_any A c m u F (fun b hx => Nat.lt_of_lt_of_le (hF b hx) HBU.out.size) (HH.out.keep ENode.stays (Keep.below HBU.out hF) (fun _ h => h)) (fun x hx => (hz.1 x hx).2.1) hz.2.2).mono ?_
  rintro _ wa ⟨v, rfl, l, hown, hmap, hb3⟩
  have HMAP := Lib.hid hmap
  have HUW : Hid (w.heap.size ≤ u.heap.size) := Lib.hid HBU.out.size
  obtain ⟨Av, cv, rfl⟩ : ∃ A c, v = .slice A m.nodes.length c := by
    obtain ⟨A', c', e⟩ := own_shape hown.row
    exact ⟨A', c', by rw [e, ← hmap, List.length_map]⟩
  have HBA := Lib.hid (HBU.out.trans (hb3.mono HBU.out.size))
  have HMA := Lib.hid (HMU.out.below hb3 HMU.out.lt)
  clear HBU HMU
  have HOA := Lib.hid hown
  have HLA : Hid (wa.heap.size ≤ wa.heap.size) := Lib.hid (Nat.le_refl _)
  clear hown hmap hb3
  go_simp
  refine hK.out _ _ (fun _ => HSS.out _ HMA.out) ?_
  have hHeldA := HSS.out _ HMA.out
  clear hK K
  try simp only [Act.put, List.setIfInBounds_toArray, List.set_cons_zero, List.set_cons_succ, Nat.zero_add]
  refine wpAnyY_take (i := 2) (v := ?_) rfl (by kernel_rfl) (by kernel_rfl) (by kernel_rfl) (by kernel_rfl) (fun _ _ _ h => h) (Or.inl ⟨by rfl, ?_⟩) (by assumption) ?_
  rotate_left 1
  · (intro w' hSw; obtain ⟨s0, s1⟩ := hSw; go_simp); try with_reducible rfl
  try simp only [Act.put, List.setIfInBounds_toArray, List.set_cons_zero, List.set_cons_succ, Nat.zero_add]
  refine wpAnyY_two (i := 3) (j := 5) rfl rfl (by kernel_rfl) (fun K hK => ?_) (fun K hK => ?_)
  · go_simp
    obtain ⟨q, hq⟩ : ∃ q, wa.heap.size = q := ⟨_, rfl⟩
    obtain ⟨wb, hwb⟩ : ∃ x : World, wa.alloc (.cells #[.slice none 0 0, .int .i64 m.next, .slice Av m.nodes.length cv, .slice none 0 0] 49) = x := ⟨_, rfl⟩
    have hb4 : Below wa.heap.size wa wb := by rw [← hwb]; exact (Below.refl _ _).alloc (Nat.le_refl _) _
    have HQW : Hid (w.heap.size ≤ q) := Lib.hid (by have := HBA.out.size; omega)
    have HTQ : Hid (IsRow 7 ENode wb (fun b => w.heap.size ≤ b ∧ b < q) (.slice Av m.nodes.length cv) m.nodes) := Lib.hid (by
      have := HOA.out.isRow (F := fun b => w.heap.size ≤ b ∧ b < q) (fun b h1 h2 => ⟨by have := HUW.out; omega, by omega⟩)
      rw [HMAP.out] at this
      exact this.keep ENode.stays (Keep.below hb4 (fun b hb => by omega)) (fun _ h => h))
    have HTB : Hid (q < wb.heap.size) := Lib.hid (by rw [← hwb]; simp; omega)
    have HBX := Lib.hid (HBA.out.trans (hb4.mono HBA.out.size))
    have HMX := Lib.hid (HMA.out.below hb4 HMA.out.lt)
    have HOX := Lib.hid (HOA.out.below hb4)
    clear HBA HMA HOA
    have HQX : Hid (Blk wb q 49 #[.slice none 0 0, .int .i64 m.next, .slice Av m.nodes.length cv, .slice none 0 0]) := Lib.hid (by rw [← hwb]; exact Blk.new' hq.symm)
    have HWBX : Hid (Below wb.heap.size wb wb) := Lib.hid (Below.refl _ _)
    clear hb4
    (try rw [hwb])
    (try rw [hq])
    clear hwb hq
    refine hK.out _ _ (fun _ => HSS.out _ HMX.out) ?_
    have hHeldX := HSS.out _ HMX.out
    clear hK K
    try simp only [Act.put, List.setIfInBounds_toArray, List.set_cons_zero, List.set_cons_succ, Nat.zero_add]
    refine wpAnyY_one (i := 5) rfl (by kernel_rfl) (fun K hK => ?_)
    go_simp
    refine (right_any A c m wb F (fun b hx => Nat.lt_of_lt_of_le (hF b hx) HBX.out.size) (HH.out.keep ENode.stays (Keep.below HBX.out hF) (fun _ h => h)) (fun x hx => (hz.1 x hx).1.1) (by have := hz.2.2; omega)).mono ?_
    rintro _ wc ⟨rfl, hb5⟩
    have HBY := Lib.hid (HBX.out.trans (hb5.mono HBX.out.size))
    have HMY := Lib.hid (HMX.out.below hb5 HMX.out.lt)
    have HOY := Lib.hid (HOX.out.below hb5)
    have HQY := Lib.hid (HQX.out.below hb5 HQX.out.lt)
    have HWBY := Lib.hid (HWBX.out.trans (hb5.mono HWBX.out.size))
    clear HBX HMX HOX HQX HWBX
    clear hb5
    go_simp
    refine hK.out _ _ (fun _ => HSS.out _ HMY.out) ?_
    have hHeldY := HSS.out _ HMY.out
    clear hK K
    try simp only [Act.put, List.setIfInBounds_toArray, List.set_cons_zero, List.set_cons_succ, Nat.zero_add]
    refine wpAnyY_one (i := 6) rfl (by kernel_rfl) (fun K hK => ?_)
    go_simp
    refine hK.out _ _ (fun _ => HSS.out _ HMY.out) ?_
    have hHeldZ := HSS.out _ HMY.out
    clear hK K
    try simp only [Act.put, List.setIfInBounds_toArray, List.set_cons_zero, List.set_cons_succ, Nat.zero_add]
    refine wpAnyY_one0 (i := 7) rfl (by kernel_rfl) (by kernel_rfl) (fun K hK => ?_)
    go_simp
    refine hK.out _ _ ?_
    clear hK K
    try simp only [Act.put, List.setIfInBounds_toArray, List.set_cons_zero, List.set_cons_succ, Nat.zero_add]
    refine wpAnyY_done (by kernel_rfl) ?_ _
    go_wp2
    refine bodyPost_ret (v := .tuple #[.pointer (some ⟨q, 0, none⟩), .bool (rightM m)]) (by simp [results, Try.results13, go_sem]) rfl ⟨q, rfl, HBY.out, HQW.out, ⟨none, 0, 0, .slice Av m.nodes.length cv, none, 0, 0, HQY.out, IsRow.nil, ?_, IsRow.nil⟩⟩
    exact HTQ.out.keep ENode.stays (Keep.below HWBY.out (fun b hb => by have := HTB.out; omega)) (fun _ h => h)
  · go_simp
    refine (right_any A c m wa F (fun b hx => Nat.lt_of_lt_of_le (hF b hx) HBA.out.size) (HH.out.keep ENode.stays (Keep.below HBA.out hF) (fun _ h => h)) (fun x hx => (hz.1 x hx).1.1) (by have := hz.2.2; omega)).mono ?_
    rintro _ wc ⟨rfl, hb5⟩
    have HBY := Lib.hid (HBA.out.trans (hb5.mono HBA.out.size))
    have HMY := Lib.hid (HMA.out.below hb5 HMA.out.lt)
    have HOY := Lib.hid (HOA.out.below hb5)
    clear HBA HMA HOA
    clear hb5
    go_simp
    refine hK.out _ _ (fun _ => HSS.out _ HMY.out) ?_
    have hHeldY := HSS.out _ HMY.out
    clear hK K
    try simp only [Act.put, List.setIfInBounds_toArray, List.set_cons_zero, List.set_cons_succ, Nat.zero_add]
    refine wpAnyY_one (i := 3) rfl (by kernel_rfl) (fun K hK => ?_)
    go_simp
    obtain ⟨q, hq⟩ : ∃ q, wc.heap.size = q := ⟨_, rfl⟩
    obtain ⟨wb, hwb⟩ : ∃ x : World, wc.alloc (.cells #[.slice none 0 0, .int .i64 m.next, .slice Av m.nodes.length cv, .slice none 0 0] 49) = x := ⟨_, rfl⟩
    have hb4 : Below wc.heap.size wc wb := by rw [← hwb]; exact (Below.refl _ _).alloc (Nat.le_refl _) _
    have HQW : Hid (w.heap.size ≤ q) := Lib.hid (by have := HBY.out.size; omega)
    have HTQ : Hid (IsRow 7 ENode wb (fun b => w.heap.size ≤ b ∧ b < q) (.slice Av m.nodes.length cv) m.nodes) := Lib.hid (by
      have := HOY.out.isRow (F := fun b => w.heap.size ≤ b ∧ b < q) (fun b h1 h2 => ⟨by have := HUW.out; omega, by omega⟩)
      rw [HMAP.out] at this
      exact this.keep ENode.stays (Keep.below hb4 (fun b hb => by omega)) (fun _ h => h))
    have HTB : Hid (q < wb.heap.size) := Lib.hid (by rw [← hwb]; simp; omega)
    have HBX := Lib.hid (HBY.out.trans (hb4.mono HBY.out.size))
    have HMX := Lib.hid (HMY.out.below hb4 HMY.out.lt)
    have HOX := Lib.hid (HOY.out.below hb4)
    clear HBY HMY HOY
    have HQX : Hid (Blk wb q 49 #[.slice none 0 0, .int .i64 m.next, .slice Av m.nodes.length cv, .slice none 0 0]) := Lib.hid (by rw [← hwb]; exact Blk.new' hq.symm)
    have HWBX : Hid (Below wb.heap.size wb wb) := Lib.hid (Below.refl _ _)
    clear hb4
    (try rw [hwb])
    (try rw [hq])
    clear hwb hq
    refine hK.out _ _ (fun _ => HSS.out _ HMX.out) ?_
    have hHeldX := HSS.out _ HMX.out
    clear hK K
    try simp only [Act.put, List.setIfInBounds_toArray, List.set_cons_zero, List.set_cons_succ, Nat.zero_add]
    refine wpAnyY_one (i := 6) rfl (by kernel_rfl) (fun K hK => ?_)
    go_simp
    refine hK.out _ _ (fun _ => HSS.out _ HMX.out) ?_
    have hHeldZ := HSS.out _ HMX.out
    clear hK K
    try simp only [Act.put, List.setIfInBounds_toArray, List.set_cons_zero, List.set_cons_succ, Nat.zero_add]
    refine wpAnyY_one0 (i := 7) rfl (by kernel_rfl) (by kernel_rfl) (fun K hK => ?_)
    go_simp
    refine hK.out _ _ ?_
    clear hK K
    try simp only [Act.put, List.setIfInBounds_toArray, List.set_cons_zero, List.set_cons_succ, Nat.zero_add]
    refine wpAnyY_done (by kernel_rfl) ?_ _
    go_wp2
    refine bodyPost_ret (v := .tuple #[.pointer (some ⟨q, 0, none⟩), .bool (rightM m)]) (by simp [results, Try.results13, go_sem]) rfl ⟨q, rfl, HBX.out, HQW.out, ⟨none, 0, 0, .slice Av m.nodes.length cv, none, 0, 0, HQX.out, IsRow.nil, ?_, IsRow.nil⟩⟩
    exact HTQ.out.keep ENode.stays (Keep.below HWBX.out (fun b hb => by have := HTB.out; omega)) (fun _ h => h)
end Go.Proofs.Ytpjkifbicfcajaa
end
section
/- the document's past, copied -/
namespace Go.Proofs.Ytpjkifbicfcajaa
open Go Go.RowKit

/-- a past of the document's, its lists opened -/
theorem IsRPast.opened {w : World} {F : Nat → Prop} {q : Nat} {P : APast} (h : IsRPast w F q P) : ∃ A c X cx B d, Blk w q 49 #[.slice A P.ahead.length c, .int .i64 P.here.next, .slice X P.here.nodes.length cx, .slice B P.behind.length d] ∧
    (P.ahead.length ≤ c ∧ c ≤ maxLen) ∧ (P.here.nodes.length ≤ cx ∧ cx ≤ maxLen) ∧ (P.behind.length ≤ d ∧ d ≤ maxLen) ∧ RowOf 2 EModel w F A P.ahead ∧ RowOf 7 ENode w F X P.here.nodes ∧ RowOf 2 EModel w F B P.behind := by
  obtain ⟨A, n, c, x, A', n', c', hb, ⟨A1, c1, e1, h1, h1', r1⟩, ⟨X, cx, rfl, h2, h2', r2⟩, ⟨A3, c3, e3, h3, h3', r3⟩⟩ := h
  injection e1 with a1 a2 a3
  injection e3 with b1 b2 b3
  subst a1 a2 a3 b1 b2 b3
  exact ⟨_, _, _, _, _, _, hb, ⟨h1, h1'⟩, ⟨h2, h2'⟩, ⟨h3, h3'⟩, r1, r2, r3⟩

set_option maxRecDepth 100000 in
set_option maxHeartbeats 4000000 in
theorem rcopy_any (p : Nat) (P : APast) (w : World) (F : Nat → Prop) (hF : ∀ b, F b → b < w.heap.size) (h : IsRPast w F p P) (hfit : P.Fits) :
    Calls Try.prog 24 #[.pointer (some ⟨p, 0, none⟩)] w fun e w' => ∃ q, e = .returned (.pointer (some ⟨q, 0, none⟩)) ∧ Below w.heap.size w w' ∧ w.heap.size ≤ q ∧ IsRPast w' (fun b => F b ∨ (w.heap.size ≤ b ∧ b < q)) q P := by
  obtain ⟨A, c, X, cx, B, d, hb, hc, hcx, hd, ra, rx, rb⟩ := h.opened
  have HRA := Lib.hid ra; have HRX := Lib.hid rx; have HRB := Lib.hid rb
  have HC := Lib.hid (And.intro hc hd); have HCX := Lib.hid hcx
  have HPB := Lib.hid hb
  have hplt := hb.lt
  have hal : P.ahead.length ≤ 65 ∧ P.behind.length ≤ 65 := by have := P.list_len; unfold APast.Fits at hfit; omega
  obtain ⟨hal1, hal2⟩ := hal
  clear h hfit hb hc hcx hd ra rx rb
  have HSS : Hid (∀ w', Blk w' p 49 #[.slice A P.ahead.length c, .int .i64 P.here.next, .slice X P.here.nodes.length cx, .slice B P.behind.length d] → (fun w' : World => w'.cell? ⟨p, 0, none⟩ = some (.slice A P.ahead.length c) ∧ w'.cell? ⟨p, 1, none⟩ = some (.int .i64 P.here.next) ∧ w'.cell? ⟨p, 2, none⟩ = some (.slice X P.here.nodes.length cx) ∧ w'.cell? ⟨p, 3, none⟩ = some (.slice B P.behind.length d)) w') := Lib.hid (fun w' h1 => by
    have m0 := h1.cell 0; have m1 := h1.cell 1; have m2 := h1.cell 2; have m3 := h1.cell 3
    simp at m0 m1 m2 m3
    exact ⟨m0, m1, m2, m3⟩)
  go_enter Try.func24, Try.ntmps24
  go_upto_region 1 with fail
  obtain ⟨u, hu⟩ : ∃ u : World, w.drew = u := ⟨_, rfl⟩
  have HBU : Hid (Below w.heap.size w u) := Lib.hid (by rw [← hu]; exact (Below.refl _ _).drew)
  have HMU := Lib.hid (HPB.out.below HBU.out hplt)
  refine wp_region_Y (S := (fun w' : World => w'.cell? ⟨p, 0, none⟩ = some (.slice A P.ahead.length c) ∧ w'.cell? ⟨p, 1, none⟩ = some (.int .i64 P.here.next) ∧ w'.cell? ⟨p, 2, none⟩ = some (.slice X P.here.nodes.length cx) ∧ w'.cell? ⟨p, 3, none⟩ = some (.slice B P.behind.length d))) 18 (by kernel_rfl) (by rw [hu]; exact HSS.out _ HMU.out) (fun hHeld => ?_)
  rw [hu] at hHeld ⊢
  clear hu
  refine wpAnyY_take (i := 1) (v := ?_) rfl (by kernel_rfl) (by kernel_rfl) (by kernel_rfl) (by kernel_rfl) (fun _ _ _ h => h) (Or.inl ⟨by rfl, ?_⟩) (by assumption) ?_
  rotate_left 1
  · (intro w' hSw; obtain ⟨s0, s1, s2, s3⟩ := hSw; go_simp); try with_reducible rfl
  try simp only [Act.put, List.setIfInBounds_toArray, List.set_cons_zero, List.set_cons_succ, Nat.zero_add]
  refine wpAnyY_take (i := 2) (v := ?_) rfl (by kernel_rfl) (by kernel_rfl) (by kernel_rfl) (by kernel_rfl) (fun _ _ _ h => h) (Or.inl ⟨by rfl, ?_⟩) (by assumption) ?_
  rotate_left 1
  · (intro w' hSw; obtain ⟨s0, s1, s2, s3⟩ := hSw; go_simp); try with_reducible rfl
  try simp only [Act.put, List.setIfInBounds_toArray, List.set_cons_zero, List.set_cons_succ, Nat.zero_add]
  refine wpAnyY_take (i := 3) (v := ?_) rfl (by kernel_rfl) (by kernel_rfl) (by kernel_rfl) (by kernel_rfl) (fun _ _ _ h => h) (Or.inl ⟨by rfl, ?_⟩) (by assumption) ?_
  rotate_left 1
  · (intro w' hSw; obtain ⟨s0, s1, s2, s3⟩ := hSw; go_simp); try with_reducible rfl
  try simp only [Act.put, List.setIfInBounds_toArray, List.set_cons_zero, List.set_cons_succ, Nat.zero_add]
  refine wpAnyY_take (i := 4) (v := ?_) rfl (by kernel_rfl) (by kernel_rfl) (by kernel_rfl) (by kernel_rfl) (fun _ _ _ h => h) (Or.inl ⟨by rfl, ?_⟩) (by assumption) ?_
  rotate_left 1
  · (intro w' hSw; obtain ⟨s0, s1, s2, s3⟩ := hSw; go_simp); try with_reducible rfl
  try simp only [Act.put, List.setIfInBounds_toArray, List.set_cons_zero, List.set_cons_succ, Nat.zero_add]
  refine wpAnyY_take (i := 6) (v := ?_) rfl (by kernel_rfl) (by kernel_rfl) (by kernel_rfl) (by kernel_rfl) (fun _ _ _ h => h) (Or.inl ⟨by rfl, ?_⟩) (by assumption) ?_
  rotate_left 1
  · (intro w' hSw; obtain ⟨s0, s1, s2, s3⟩ := hSw; go_simp); try with_reducible rfl
  try simp only [Act.put, List.setIfInBounds_toArray, List.set_cons_zero, List.set_cons_succ, Nat.zero_add]
  refine wpAnyY_take (i := 7) (v := ?_) rfl (by kernel_rfl) (by kernel_rfl) (by kernel_rfl) (by kernel_rfl) (fun _ _ _ h => h) (Or.inl ⟨by rfl, ?_⟩) (by assumption) ?_
  rotate_left 1
  · (intro w' hSw; obtain ⟨s0, s1, s2, s3⟩ := hSw; go_simp); try with_reducible rfl
  try simp only [Act.put, List.setIfInBounds_toArray, List.set_cons_zero, List.set_cons_succ, Nat.zero_add]
  refine wpAnyY_take (i := 8) (v := ?_) rfl (by kernel_rfl) (by kernel_rfl) (by kernel_rfl) (by kernel_rfl) (fun _ _ _ h => h) (Or.inl ⟨by rfl, ?_⟩) (by assumption) ?_
  rotate_left 1
  · (intro w' hSw; obtain ⟨s0, s1, s2, s3⟩ := hSw; go_simp); try with_reducible rfl
  try simp only [Act.put, List.setIfInBounds_toArray, List.set_cons_zero, List.set_cons_succ, Nat.zero_add]
  refine wpAnyY_take (i := 9) (v := ?_) rfl (by kernel_rfl) (by kernel_rfl) (by kernel_rfl) (by kernel_rfl) (fun _ _ _ h => h) (Or.inl ⟨by rfl, ?_⟩) (by assumption) ?_
  rotate_left 1
  · (intro w' hSw; obtain ⟨s0, s1, s2, s3⟩ := hSw; go_simp); try with_reducible rfl
  try simp only [Act.put, List.setIfInBounds_toArray, List.set_cons_zero, List.set_cons_succ, Nat.zero_add]
  refine wpAnyY_take (i := 11) (v := ?_) rfl (by kernel_rfl) (by kernel_rfl) (by kernel_rfl) (by kernel_rfl) (fun _ _ _ h => h) (Or.inl ⟨by rfl, ?_⟩) (by assumption) ?_
  rotate_left 1
  · (intro w' hSw; obtain ⟨s0, s1, s2, s3⟩ := hSw; go_simp); try with_reducible rfl
  try simp only [Act.put, List.setIfInBounds_toArray, List.set_cons_zero, List.set_cons_succ, Nat.zero_add]
  refine wpAnyY_take (i := 12) (v := ?_) rfl (by kernel_rfl) (by kernel_rfl) (by kernel_rfl) (by kernel_rfl) (fun _ _ _ h => h) (Or.inl ⟨by rfl, ?_⟩) (by assumption) ?_
  rotate_left 1
  · (intro w' hSw; obtain ⟨s0, s1, s2, s3⟩ := hSw; go_simp); try with_reducible rfl
  try simp only [Act.put, List.setIfInBounds_toArray, List.set_cons_zero, List.set_cons_succ, Nat.zero_add]
  refine wpAnyY_take (i := 13) (v := ?_) rfl (by kernel_rfl) (by kernel_rfl) (by kernel_rfl) (by kernel_rfl) (fun _ _ _ h => h) (Or.inl ⟨by rfl, ?_⟩) (by assumption) ?_
  rotate_left 1
  · (intro w' hSw; obtain ⟨s0, s1, s2, s3⟩ := hSw; go_simp); try with_reducible rfl
  try simp only [Act.put, List.setIfInBounds_toArray, List.set_cons_zero, List.set_cons_succ, Nat.zero_add]
  refine wpAnyY_take (i := 14) (v := ?_) rfl (by kernel_rfl) (by kernel_rfl) (by kernel_rfl) (by kernel_rfl) (fun _ _ _ h => h) (Or.inl ⟨by rfl, ?_⟩) (by assumption) ?_
  rotate_left 1
  · (intro w' hSw; obtain ⟨s0, s1, s2, s3⟩ := hSw; go_simp); try with_reducible rfl
  try simp only [Act.put, List.setIfInBounds_toArray, List.set_cons_zero, List.set_cons_succ, Nat.zero_add]
  refine wpAnyY_two (i := 0) (j := 10) rfl rfl (by kernel_rfl) (fun K hK => ?_) (fun K hK => ?_)
  · go_simp
    obtain ⟨s0, hs0⟩ : ∃ q, u.heap.size = q := ⟨_, rfl⟩
    have HE0N0 : Hid (OwnRow 2 27 EModel F (u.alloc (.cells #[] 27)) w.heap.size (.slice (some ⟨s0, 0, none⟩) 0 0) ([] : List AModel)) := Lib.hid (by rw [← hs0]; exact OwnRow.made _ 2 u HBU.out.size)
    obtain ⟨w0, hnw⟩ : ∃ x : World, u.alloc (.cells #[] 27) = x := ⟨_, rfl⟩
    have hb3 : Below u.heap.size u w0 := by rw [← hnw]; exact (Below.refl _ _).alloc (Nat.le_refl _) _
    rw [hnw] at HE0N0
    (try rw [hnw])
    (try rw [hs0])
    clear hnw hs0
    have HBN0 := Lib.hid (HBU.out.trans (hb3.mono HBU.out.size))
    have HMN0 := Lib.hid (HMU.out.below hb3 HMU.out.lt)
    clear HBU HMU
    clear hb3
    refine hK.out _ _ (fun _ => HSS.out _ HMN0.out) ?_
    have hHeldN0 := HSS.out _ HMN0.out
    clear hK K
    try simp only [Act.put, List.setIfInBounds_toArray, List.set_cons_zero, List.set_cons_succ, Nat.zero_add]
    refine wpAnyY_two (i := 5) (j := 10) rfl rfl (by kernel_rfl) (fun K hK => ?_) (fun K hK => ?_)
    · refine step_dup (P := Try.prog) (E := EModel) (F := F) (l := P.ahead) EModel.stays w0 (by rfl) (.tmp 3) (.tmp 7) 22 (by rfl) 27 Try.underlying22 model_info rfl (by omega) w.heap.size s0 (by rfl) HE0N0.out A c (by rfl) (HRA.out.keep EModel.stays (Keep.below HBN0.out hF) (fun _ h => h)) (fun _ _ h => h.one) (fun b hb => Nat.lt_of_lt_of_le (hF b hb) HBN0.out.size) (by unfold maxLen; omega) (by omega) HBN0.out.size ?_
      intro A5 c5 w5 hown hb3
      have HA5N5 := Lib.hid hown
      have HBN5 := Lib.hid (HBN0.out.trans (hb3.mono HBN0.out.size))
      have HMN5 := Lib.hid (HMN0.out.below hb3 HMN0.out.lt)
      clear HBN0 HMN0
      clear hown hb3
      refine hK.out _ _ (fun _ => HSS.out _ HMN5.out) ?_
      have hHeldN5 := HSS.out _ HMN5.out
      clear hK K
      try simp only [Act.put, List.setIfInBounds_toArray, List.set_cons_zero, List.set_cons_succ, Nat.zero_add]
      refine wpAnyY_one (i := 10) rfl (by kernel_rfl) (fun K hK => ?_)
      go_simp
      obtain ⟨s10, hs10⟩ : ∃ q, w5.heap.size = q := ⟨_, rfl⟩
      have HE10N10 : Hid (OwnRow 2 27 EModel F (w5.alloc (.cells #[] 27)) w.heap.size (.slice (some ⟨s10, 0, none⟩) 0 0) ([] : List AModel)) := Lib.hid (by rw [← hs10]; exact OwnRow.made _ 2 w5 HBN5.out.size)
      obtain ⟨w10, hnw⟩ : ∃ x : World, w5.alloc (.cells #[] 27) = x := ⟨_, rfl⟩
      have hb3 : Below w5.heap.size w5 w10 := by rw [← hnw]; exact (Below.refl _ _).alloc (Nat.le_refl _) _
      rw [hnw] at HE10N10
      (try rw [hnw])
      (try rw [hs10])
      clear hnw hs10
      have HBN10 := Lib.hid (HBN5.out.trans (hb3.mono HBN5.out.size))
      have HMN10 := Lib.hid (HMN5.out.below hb3 HMN5.out.lt)
      have HA5N10 := Lib.hid (HA5N5.out.below EModel.stays hb3)
      clear HBN5 HMN5 HA5N5
      clear hb3
      refine hK.out _ _ (fun _ => HSS.out _ HMN10.out) ?_
      have hHeldN10 := HSS.out _ HMN10.out
      clear hK K
      try simp only [Act.put, List.setIfInBounds_toArray, List.set_cons_zero, List.set_cons_succ, Nat.zero_add]
      refine wpAnyY_one (i := 15) rfl (by kernel_rfl) (fun K hK => ?_)
      refine step_dup (P := Try.prog) (E := EModel) (F := F) (l := P.behind) EModel.stays w10 (by rfl) (.tmp 13) (.tmp 17) 22 (by rfl) 27 Try.underlying22 model_info rfl (by omega) w.heap.size s10 (by rfl) HE10N10.out B d (by rfl) (HRB.out.keep EModel.stays (Keep.below HBN10.out hF) (fun _ h => h)) (fun _ _ h => h.one) (fun b hb => Nat.lt_of_lt_of_le (hF b hb) HBN10.out.size) (by unfold maxLen; omega) (by omega) HBN10.out.size ?_
      intro A15 c15 w15 hown hb3
      have HA15N15 := Lib.hid hown
      have HBN15 := Lib.hid (HBN10.out.trans (hb3.mono HBN10.out.size))
      have HMN15 := Lib.hid (HMN10.out.below hb3 HMN10.out.lt)
      have HA5N15 := Lib.hid (HA5N10.out.below EModel.stays hb3)
      clear HBN10 HMN10 HA5N10
      clear hown hb3
      refine hK.out _ _ (fun _ => HSS.out _ HMN15.out) ?_
      have hHeldN15 := HSS.out _ HMN15.out
      clear hK K
      try simp only [Act.put, List.setIfInBounds_toArray, List.set_cons_zero, List.set_cons_succ, Nat.zero_add]
      refine wpAnyY_take (i := 16) (v := ?_) rfl (by kernel_rfl) (by kernel_rfl) (by kernel_rfl) (by kernel_rfl) (fun _ _ _ h => h) (Or.inl ⟨by rfl, ?_⟩) (by assumption) ?_
      rotate_left 1
      · (intro w' hSw; obtain ⟨s0, s1, s2, s3⟩ := hSw; go_simp); try with_reducible rfl
      try simp only [Act.put, List.setIfInBounds_toArray, List.set_cons_zero, List.set_cons_succ, Nat.zero_add]
      refine wpAnyY_one (i := 17) rfl (by kernel_rfl) (fun K hK => ?_)
      go_simp
      obtain ⟨q, hq⟩ : ∃ q, w15.heap.size = q := ⟨_, rfl⟩
      obtain ⟨wb, hwb⟩ : ∃ x : World, w15.alloc (.cells #[.slice A5 P.ahead.length c5, .int .i64 P.here.next, .slice X P.here.nodes.length cx, .slice A15 P.behind.length c15] 49) = x := ⟨_, rfl⟩
      have hb4 : Below w15.heap.size w15 wb := by rw [← hwb]; exact (Below.refl _ _).alloc (Nat.le_refl _) _
      have HQW : Hid (w.heap.size ≤ q) := Lib.hid (by have := HBN15.out.size; omega)
      have HR1 : Hid (IsRow 2 EModel wb (fun b => F b ∨ (w.heap.size ≤ b ∧ b < q)) (.slice A5 P.ahead.length c5) P.ahead) := Lib.hid ((HA5N15.out.isRow EModel.stays (F' := fun b => F b ∨ (w.heap.size ≤ b ∧ b < q)) (fun b h1 _ => .inl h1) (fun b h1 h2 => .inr ⟨h1, by omega⟩)).keep EModel.stays (Keep.below hb4 (fun b hb => hb.elim (fun h => by have := hF b h; have := HQW.out; omega) (fun h => by omega))) (fun _ h => h))
      have HR2 : Hid (IsRow 2 EModel wb (fun b => F b ∨ (w.heap.size ≤ b ∧ b < q)) (.slice A15 P.behind.length c15) P.behind) := Lib.hid ((HA15N15.out.isRow EModel.stays (F' := fun b => F b ∨ (w.heap.size ≤ b ∧ b < q)) (fun b h1 _ => .inl h1) (fun b h1 h2 => .inr ⟨h1, by omega⟩)).keep EModel.stays (Keep.below hb4 (fun b hb => hb.elim (fun h => by have := hF b h; have := HQW.out; omega) (fun h => by omega))) (fun _ h => h))
      have HBX := Lib.hid (HBN15.out.trans (hb4.mono HBN15.out.size))
      have HMX := Lib.hid (HMN15.out.below hb4 HMN15.out.lt)
      have HA5X := Lib.hid (HA5N15.out.below EModel.stays hb4)
      have HA15X := Lib.hid (HA15N15.out.below EModel.stays hb4)
      clear HBN15 HMN15 HA5N15 HA15N15
      have HQX : Hid (Blk wb q 49 #[.slice A5 P.ahead.length c5, .int .i64 P.here.next, .slice X P.here.nodes.length cx, .slice A15 P.behind.length c15]) := Lib.hid (by rw [← hwb]; exact Blk.new' hq.symm)
      clear hb4
      (try rw [hwb])
      (try rw [hq])
      clear hwb hq
      refine hK.out _ _ (fun _ => HSS.out _ HMX.out) ?_
      have hHeldX := HSS.out _ HMX.out
      clear hK K
      try simp only [Act.put, List.setIfInBounds_toArray, List.set_cons_zero, List.set_cons_succ, Nat.zero_add]
      refine wpAnyY_one0 (i := 18) rfl (by kernel_rfl) (by kernel_rfl) (fun K hK => ?_)
      go_simp
      refine hK.out _ _ ?_
      clear hK K
      try simp only [Act.put, List.setIfInBounds_toArray, List.set_cons_zero, List.set_cons_succ, Nat.zero_add]
      refine wpAnyY_done (by kernel_rfl) ?_ _
      go_wp2
      go_ret
      exact ⟨q, by simp, HBX.out, HQW.out, ⟨_, _, _, _, _, _, _, HQX.out, HR1.out, ⟨X, cx, rfl, HCX.out.1, HCX.out.2, HRX.out.keep ENode.stays (Keep.below HBX.out hF) (fun _ h => .inl h)⟩, HR2.out⟩⟩
    · go_simp
      obtain ⟨s10, hs10⟩ : ∃ q, w0.heap.size = q := ⟨_, rfl⟩
      have HE10N10 : Hid (OwnRow 2 27 EModel F (w0.alloc (.cells #[] 27)) w.heap.size (.slice (some ⟨s10, 0, none⟩) 0 0) ([] : List AModel)) := Lib.hid (by rw [← hs10]; exact OwnRow.made _ 2 w0 HBN0.out.size)
      obtain ⟨w10, hnw⟩ : ∃ x : World, w0.alloc (.cells #[] 27) = x := ⟨_, rfl⟩
      have hb3 : Below w0.heap.size w0 w10 := by rw [← hnw]; exact (Below.refl _ _).alloc (Nat.le_refl _) _
      rw [hnw] at HE10N10
      (try rw [hnw])
      (try rw [hs10])
      clear hnw hs10
      have HBN10 := Lib.hid (HBN0.out.trans (hb3.mono HBN0.out.size))
      have HMN10 := Lib.hid (HMN0.out.below hb3 HMN0.out.lt)
      have HE0N10 := Lib.hid (HE0N0.out.below EModel.stays hb3)
      clear HBN0 HMN0 HE0N0
      clear hb3
      refine hK.out _ _ (fun _ => HSS.out _ HMN10.out) ?_
      have hHeldN10 := HSS.out _ HMN10.out
      clear hK K
      try simp only [Act.put, List.setIfInBounds_toArray, List.set_cons_zero, List.set_cons_succ, Nat.zero_add]
      refine wpAnyY_one (i := 5) rfl (by kernel_rfl) (fun K hK => ?_)
      refine step_dup (P := Try.prog) (E := EModel) (F := F) (l := P.ahead) EModel.stays w10 (by rfl) (.tmp 3) (.tmp 7) 22 (by rfl) 27 Try.underlying22 model_info rfl (by omega) w.heap.size s0 (by rfl) HE0N10.out A c (by rfl) (HRA.out.keep EModel.stays (Keep.below HBN10.out hF) (fun _ h => h)) (fun _ _ h => h.one) (fun b hb => Nat.lt_of_lt_of_le (hF b hb) HBN10.out.size) (by unfold maxLen; omega) (by omega) HBN10.out.size ?_
      intro A5 c5 w5 hown hb3
      have HA5N5 := Lib.hid hown
      have HBN5 := Lib.hid (HBN10.out.trans (hb3.mono HBN10.out.size))
      have HMN5 := Lib.hid (HMN10.out.below hb3 HMN10.out.lt)
      have HE10N5 := Lib.hid (HE10N10.out.below EModel.stays hb3)
      clear HBN10 HMN10 HE10N10
      clear hown hb3
      refine hK.out _ _ (fun _ => HSS.out _ HMN5.out) ?_
      have hHeldN5 := HSS.out _ HMN5.out
      clear hK K
      try simp only [Act.put, List.setIfInBounds_toArray, List.set_cons_zero, List.set_cons_succ, Nat.zero_add]
      refine wpAnyY_one (i := 15) rfl (by kernel_rfl) (fun K hK => ?_)
      refine step_dup (P := Try.prog) (E := EModel) (F := F) (l := P.behind) EModel.stays w5 (by rfl) (.tmp 13) (.tmp 17) 22 (by rfl) 27 Try.underlying22 model_info rfl (by omega) w.heap.size s10 (by rfl) HE10N5.out B d (by rfl) (HRB.out.keep EModel.stays (Keep.below HBN5.out hF) (fun _ h => h)) (fun _ _ h => h.one) (fun b hb => Nat.lt_of_lt_of_le (hF b hb) HBN5.out.size) (by unfold maxLen; omega) (by omega) HBN5.out.size ?_
      intro A15 c15 w15 hown hb3
      have HA15N15 := Lib.hid hown
      have HBN15 := Lib.hid (HBN5.out.trans (hb3.mono HBN5.out.size))
      have HMN15 := Lib.hid (HMN5.out.below hb3 HMN5.out.lt)
      have HA5N15 := Lib.hid (HA5N5.out.below EModel.stays hb3)
      clear HBN5 HMN5 HA5N5
      clear hown hb3
      refine hK.out _ _ (fun _ => HSS.out _ HMN15.out) ?_
      have hHeldN15 := HSS.out _ HMN15.out
      clear hK K
      try simp only [Act.put, List.setIfInBounds_toArray, List.set_cons_zero, List.set_cons_succ, Nat.zero_add]
      refine wpAnyY_take (i := 16) (v := ?_) rfl (by kernel_rfl) (by kernel_rfl) (by kernel_rfl) (by kernel_rfl) (fun _ _ _ h => h) (Or.inl ⟨by rfl, ?_⟩) (by assumption) ?_
      rotate_left 1
      · (intro w' hSw; obtain ⟨s0, s1, s2, s3⟩ := hSw; go_simp); try with_reducible rfl
      try simp only [Act.put, List.setIfInBounds_toArray, List.set_cons_zero, List.set_cons_succ, Nat.zero_add]
      refine wpAnyY_one (i := 17) rfl (by kernel_rfl) (fun K hK => ?_)
      go_simp
      obtain ⟨q, hq⟩ : ∃ q, w15.heap.size = q := ⟨_, rfl⟩
      obtain ⟨wb, hwb⟩ : ∃ x : World, w15.alloc (.cells #[.slice A5 P.ahead.length c5, .int .i64 P.here.next, .slice X P.here.nodes.length cx, .slice A15 P.behind.length c15] 49) = x := ⟨_, rfl⟩
      have hb4 : Below w15.heap.size w15 wb := by rw [← hwb]; exact (Below.refl _ _).alloc (Nat.le_refl _) _
      have HQW : Hid (w.heap.size ≤ q) := Lib.hid (by have := HBN15.out.size; omega)
      have HR1 : Hid (IsRow 2 EModel wb (fun b => F b ∨ (w.heap.size ≤ b ∧ b < q)) (.slice A5 P.ahead.length c5) P.ahead) := Lib.hid ((HA5N15.out.isRow EModel.stays (F' := fun b => F b ∨ (w.heap.size ≤ b ∧ b < q)) (fun b h1 _ => .inl h1) (fun b h1 h2 => .inr ⟨h1, by omega⟩)).keep EModel.stays (Keep.below hb4 (fun b hb => hb.elim (fun h => by have := hF b h; have := HQW.out; omega) (fun h => by omega))) (fun _ h => h))
      have HR2 : Hid (IsRow 2 EModel wb (fun b => F b ∨ (w.heap.size ≤ b ∧ b < q)) (.slice A15 P.behind.length c15) P.behind) := Lib.hid ((HA15N15.out.isRow EModel.stays (F' := fun b => F b ∨ (w.heap.size ≤ b ∧ b < q)) (fun b h1 _ => .inl h1) (fun b h1 h2 => .inr ⟨h1, by omega⟩)).keep EModel.stays (Keep.below hb4 (fun b hb => hb.elim (fun h => by have := hF b h; have := HQW.out; omega) (fun h => by omega))) (fun _ h => h))
      have HBX := Lib.hid (HBN15.out.trans (hb4.mono HBN15.out.size))
      have HMX := Lib.hid (HMN15.out.below hb4 HMN15.out.lt)
      have HA5X := Lib.hid (HA5N15.out.below EModel.stays hb4)
      have HA15X := Lib.hid (HA15N15.out.below EModel.stays hb4)
      clear HBN15 HMN15 HA5N15 HA15N15
      have HQX : Hid (Blk wb q 49 #[.slice A5 P.ahead.length c5, .int .i64 P.here.next, .slice X P.here.nodes.length cx, .slice A15 P.behind.length c15]) := Lib.hid (by rw [← hwb]; exact Blk.new' hq.symm)
      clear hb4
      (try rw [hwb])
      (try rw [hq])
      clear hwb hq
      refine hK.out _ _ (fun _ => HSS.out _ HMX.out) ?_
      have hHeldX := HSS.out _ HMX.out
      clear hK K
      try simp only [Act.put, List.setIfInBounds_toArray, List.set_cons_zero, List.set_cons_succ, Nat.zero_add]
      refine wpAnyY_one0 (i := 18) rfl (by kernel_rfl) (by kernel_rfl) (fun K hK => ?_)
      go_simp
      refine hK.out _ _ ?_
      clear hK K
      try simp only [Act.put, List.setIfInBounds_toArray, List.set_cons_zero, List.set_cons_succ, Nat.zero_add]
      refine wpAnyY_done (by kernel_rfl) ?_ _
      go_wp2
      go_ret
      exact ⟨q, by simp, HBX.out, HQW.out, ⟨_, _, _, _, _, _, _, HQX.out, HR1.out, ⟨X, cx, rfl, HCX.out.1, HCX.out.2, HRX.out.keep ENode.stays (Keep.below HBX.out hF) (fun _ h => .inl h)⟩, HR2.out⟩⟩
  · go_simp
    obtain ⟨s10, hs10⟩ : ∃ q, u.heap.size = q := ⟨_, rfl⟩
    have HE10N10 : Hid (OwnRow 2 27 EModel F (u.alloc (.cells #[] 27)) w.heap.size (.slice (some ⟨s10, 0, none⟩) 0 0) ([] : List AModel)) := Lib.hid (by rw [← hs10]; exact OwnRow.made _ 2 u HBU.out.size)
    obtain ⟨w10, hnw⟩ : ∃ x : World, u.alloc (.cells #[] 27) = x := ⟨_, rfl⟩
    have hb3 : Below u.heap.size u w10 := by rw [← hnw]; exact (Below.refl _ _).alloc (Nat.le_refl _) _
    rw [hnw] at HE10N10
    (try rw [hnw])
    (try rw [hs10])
    clear hnw hs10
    have HBN10 := Lib.hid (HBU.out.trans (hb3.mono HBU.out.size))
    have HMN10 := Lib.hid (HMU.out.below hb3 HMU.out.lt)
    clear HBU HMU
    clear hb3
    refine hK.out _ _ (fun _ => HSS.out _ HMN10.out) ?_
    have hHeldN10 := HSS.out _ HMN10.out
    clear hK K
    try simp only [Act.put, List.setIfInBounds_toArray, List.set_cons_zero, List.set_cons_succ, Nat.zero_add]
    refine wpAnyY_one (i := 0) rfl (by kernel_rfl) (fun K hK => ?_)
    go_simp
    obtain ⟨s0, hs0⟩ : ∃ q, w10.heap.size = q := ⟨_, rfl⟩
    have HE0N0 : Hid (OwnRow 2 27 EModel F (w10.alloc (.cells #[] 27)) w.heap.size (.slice (some ⟨s0, 0, none⟩) 0 0) ([] : List AModel)) := Lib.hid (by rw [← hs0]; exact OwnRow.made _ 2 w10 HBN10.out.size)
    obtain ⟨w0, hnw⟩ : ∃ x : World, w10.alloc (.cells #[] 27) = x := ⟨_, rfl⟩
    have hb3 : Below w10.heap.size w10 w0 := by rw [← hnw]; exact (Below.refl _ _).alloc (Nat.le_refl _) _
    rw [hnw] at HE0N0
    (try rw [hnw])
    (try rw [hs0])
    clear hnw hs0
    have HBN0 := Lib.hid (HBN10.out.trans (hb3.mono HBN10.out.size))
    have HMN0 := Lib.hid (HMN10.out.below hb3 HMN10.out.lt)
    have HE10N0 := Lib.hid (HE10N10.out.below EModel.stays hb3)
    clear HBN10 HMN10 HE10N10
    clear hb3
    refine hK.out _ _ (fun _ => HSS.out _ HMN0.out) ?_
    have hHeldN0 := HSS.out _ HMN0.out
    clear hK K
    try simp only [Act.put, List.setIfInBounds_toArray, List.set_cons_zero, List.set_cons_succ, Nat.zero_add]
    refine wpAnyY_one (i := 5) rfl (by kernel_rfl) (fun K hK => ?_)
    refine step_dup (P := Try.prog) (E := EModel) (F := F) (l := P.ahead) EModel.stays w0 (by rfl) (.tmp 3) (.tmp 7) 22 (by rfl) 27 Try.underlying22 model_info rfl (by omega) w.heap.size s0 (by rfl) HE0N0.out A c (by rfl) (HRA.out.keep EModel.stays (Keep.below HBN0.out hF) (fun _ h => h)) (fun _ _ h => h.one) (fun b hb => Nat.lt_of_lt_of_le (hF b hb) HBN0.out.size) (by unfold maxLen; omega) (by omega) HBN0.out.size ?_
    intro A5 c5 w5 hown hb3
    have HA5N5 := Lib.hid hown
    have HBN5 := Lib.hid (HBN0.out.trans (hb3.mono HBN0.out.size))
    have HMN5 := Lib.hid (HMN0.out.below hb3 HMN0.out.lt)
    have HE10N5 := Lib.hid (HE10N0.out.below EModel.stays hb3)
    clear HBN0 HMN0 HE10N0
    clear hown hb3
    refine hK.out _ _ (fun _ => HSS.out _ HMN5.out) ?_
    have hHeldN5 := HSS.out _ HMN5.out
    clear hK K
    try simp only [Act.put, List.setIfInBounds_toArray, List.set_cons_zero, List.set_cons_succ, Nat.zero_add]
    refine wpAnyY_one (i := 15) rfl (by kernel_rfl) (fun K hK => ?_)
    refine step_dup (P := Try.prog) (E := EModel) (F := F) (l := P.behind) EModel.stays w5 (by rfl) (.tmp 13) (.tmp 17) 22 (by rfl) 27 Try.underlying22 model_info rfl (by omega) w.heap.size s10 (by rfl) HE10N5.out B d (by rfl) (HRB.out.keep EModel.stays (Keep.below HBN5.out hF) (fun _ h => h)) (fun _ _ h => h.one) (fun b hb => Nat.lt_of_lt_of_le (hF b hb) HBN5.out.size) (by unfold maxLen; omega) (by omega) HBN5.out.size ?_
    intro A15 c15 w15 hown hb3
    have HA15N15 := Lib.hid hown
    have HBN15 := Lib.hid (HBN5.out.trans (hb3.mono HBN5.out.size))
    have HMN15 := Lib.hid (HMN5.out.below hb3 HMN5.out.lt)
    have HA5N15 := Lib.hid (HA5N5.out.below EModel.stays hb3)
    clear HBN5 HMN5 HA5N5
    clear hown hb3
    refine hK.out _ _ (fun _ => HSS.out _ HMN15.out) ?_
    have hHeldN15 := HSS.out _ HMN15.out
    clear hK K
    try simp only [Act.put, List.setIfInBounds_toArray, List.set_cons_zero, List.set_cons_succ, Nat.zero_add]
    refine wpAnyY_take (i := 16) (v := ?_) rfl (by kernel_rfl) (by kernel_rfl) (by kernel_rfl) (by kernel_rfl) (fun _ _ _ h => h) (Or.inl ⟨by rfl, ?_⟩) (by assumption) ?_
    rotate_left 1
    · (intro w' hSw; obtain ⟨s0, s1, s2, s3⟩ := hSw; go_simp); try with_reducible rfl
    try simp only [Act.put, List.setIfInBounds_toArray, List.set_cons_zero, List.set_cons_succ, Nat.zero_add]
    refine wpAnyY_one (i := 17) rfl (by kernel_rfl) (fun K hK => ?_)
    go_simp
    obtain ⟨q, hq⟩ : ∃ q, w15.heap.size = q := ⟨_, rfl⟩
    obtain ⟨wb, hwb⟩ : ∃ x : World, w15.alloc (.cells #[.slice A5 P.ahead.length c5, .int .i64 P.here.next, .slice X P.here.nodes.length cx, .slice A15 P.behind.length c15] 49) = x := ⟨_, rfl⟩
    have hb4 : Below w15.heap.size w15 wb := by rw [← hwb]; exact (Below.refl _ _).alloc (Nat.le_refl _) _
    have HQW : Hid (w.heap.size ≤ q) := Lib.hid (by have := HBN15.out.size; omega)
    have HR1 : Hid (IsRow 2 EModel wb (fun b => F b ∨ (w.heap.size ≤ b ∧ b < q)) (.slice A5 P.ahead.length c5) P.ahead) := Lib.hid ((HA5N15.out.isRow EModel.stays (F' := fun b => F b ∨ (w.heap.size ≤ b ∧ b < q)) (fun b h1 _ => .inl h1) (fun b h1 h2 => .inr ⟨h1, by omega⟩)).keep EModel.stays (Keep.below hb4 (fun b hb => hb.elim (fun h => by have := hF b h; have := HQW.out; omega) (fun h => by omega))) (fun _ h => h))
    have HR2 : Hid (IsRow 2 EModel wb (fun b => F b ∨ (w.heap.size ≤ b ∧ b < q)) (.slice A15 P.behind.length c15) P.behind) := Lib.hid ((HA15N15.out.isRow EModel.stays (F' := fun b => F b ∨ (w.heap.size ≤ b ∧ b < q)) (fun b h1 _ => .inl h1) (fun b h1 h2 => .inr ⟨h1, by omega⟩)).keep EModel.stays (Keep.below hb4 (fun b hb => hb.elim (fun h => by have := hF b h; have := HQW.out; omega) (fun h => by omega))) (fun _ h => h))
    have HBX := Lib.hid (HBN15.out.trans (hb4.mono HBN15.out.size))
    have HMX := Lib.hid (HMN15.out.below hb4 HMN15.out.lt)
    have HA5X := Lib.hid (HA5N15.out.below EModel.stays hb4)
    have HA15X := Lib.hid (HA15N15.out.below EModel.stays hb4)
    clear HBN15 HMN15 HA5N15 HA15N15
    have HQX : Hid (Blk wb q 49 #[.slice A5 P.ahead.length c5, .int .i64 P.here.next, .slice X P.here.nodes.length cx, .slice A15 P.behind.length c15]) := Lib.hid (by rw [← hwb]; exact Blk.new' hq.symm)
    clear hb4
    (try rw [hwb])
    (try rw [hq])
    clear hwb hq
    refine hK.out _ _ (fun _ => HSS.out _ HMX.out) ?_
    have hHeldX := HSS.out _ HMX.out
    clear hK K
    try simp only [Act.put, List.setIfInBounds_toArray, List.set_cons_zero, List.set_cons_succ, Nat.zero_add]
    refine wpAnyY_one0 (i := 18) rfl (by kernel_rfl) (by kernel_rfl) (fun K hK => ?_)
    go_simp
    refine hK.out _ _ ?_
    clear hK K
    try simp only [Act.put, List.setIfInBounds_toArray, List.set_cons_zero, List.set_cons_succ, Nat.zero_add]
    refine wpAnyY_done (by kernel_rfl) ?_ _
    go_wp2
    go_ret
    exact ⟨q, by simp, HBX.out, HQW.out, ⟨_, _, _, _, _, _, _, HQX.out, HR1.out, ⟨X, cx, rfl, HCX.out.1, HCX.out.2, HRX.out.keep ENode.stays (Keep.below HBX.out hF) (fun _ h => .inl h)⟩, HR2.out⟩⟩
end Go.Proofs.Ytpjkifbicfcajaa
end
