import Derived.Test.YtgcbnndbeoekgaaRClose
import Derived.Test.YtgcbnndbeoekgaaMeetM
import Derived.Test.YtgcbnndbeoekgaaAlike
set_option linter.unusedSimpArgs false
set_option linter.unusedVariables false
/- the document's web.clash: do two meet that are unlike? -/
namespace Go.Proofs.Ytgcbnndbeoekgaa
open Go Go.RowKit Go.Maps

/-- a pair of nodes that are alike, if they have met -/
def NoClash (W : WebT) (r : Nat → Nat) (i k : Nat) : Prop := ∀ nm ks nm' ks', r i = r k → W.nd i = .app nm ks → W.nd k = .app nm' ks' → nm = nm' ∧ ks.length = ks'.length
def ClashIs (W : WebT) (E : List (Fo × Fo)) (ns : List TN) (cl : List Nat) (e : Ending) : Prop :=
  (e = .returned (.bool true) ∧ Comes E .clash) ∨ (e = .returned (.bool false) ∧ ∀ i k, k < i → i < ns.length → NoClash W (rOf cl) i k)
theorem NoClash.of {W : WebT} {E : List (Fo × Fo)} {ns : List TN} {cl : List Nat} (h : RW W E ns cl) {i k : Nat} (hi : i < ns.length) (hk : k < ns.length) (hn : ¬ (rOf cl i = rOf cl k ∧ ns[i].var = 0 ∧ ns[k].var = 0 ∧ (ns[i].name ≠ ns[k].name ∨ ns[i].args.length ≠ ns[k].args.length))) : NoClash W (rOf cl) i k := by
  intro nm ks nm' ks' hr e1 e2
  obtain ⟨i1, i2, i3⟩ := h.of_app hi e1
  obtain ⟨k1, k2, k3⟩ := h.of_app hk e2
  have h1 : ¬ (ns[i].name ≠ ns[k].name ∨ ns[i].args.length ≠ ns[k].args.length) := fun h => hn ⟨hr, i1, k1, h⟩
  refine ⟨?_, ?_⟩
  · rw [← i2, ← k2]
    exact Classical.byContradiction fun e => h1 (.inl e)
  · rw [← i3, ← k3, List.length_map, List.length_map]
    exact Classical.byContradiction fun e => h1 (.inr e)

set_option maxRecDepth 100000 in
set_option maxHeartbeats 16000000 in
theorem rclash_any (w : World) (B p g gc n cn cc : Nat) (ns : List TN) (cl : List Nat) (W : WebT) (E : List (Fo × Fo)) (hm : RM w B p (.slice (some ⟨g, 0, none⟩) n cn) (.slice (some ⟨gc, 0, none⟩) n cc) ns cl) (hrw : RW W E ns cl) (hl : n ≤ 1048576) (hn : ns.length = n) :
    Calls Try.prog 51 #[.pointer (some ⟨p, 0, none⟩)] w fun e w' => ClashIs W E ns cl e ∧ Below w.heap.size w w' := by
  have HM0 := Lib.hid hm; have HRW := Lib.hid hrw; have HN := Lib.hid hn
  have HRV : Hid (∀ t ∈ ns, 0 ≤ t.var ∧ t.var ≤ 2147483647) := Lib.hid (fun t ht => (hrw.node t ht).var)
  clear hm hrw hn
  go_enter Try.func51, Try.ntmps51
  go_upto_region 2 with fail
  go_loopg [3] n (fun gh s3 wx => ∃ (i : Nat), s3 = .int .i64 i ∧ gh = n - i ∧ i ≤ n ∧ Below w.heap.size w wx ∧ ∀ a b, b < a → a < i → NoClash W (rOf cl) a b)
  case atStart => exact ⟨0, rfl, rfl, Nat.zero_le _, Below.refl _ _, fun a b _ h => absurd h (Nat.not_lt_zero _)⟩
  case round =>
    obtain ⟨i, rfl, rfl, hi, hb, hnc⟩ := hrel
    have HB0 := Lib.hid hb; have HNC := Lib.hid hnc
    have HMI := Lib.hid (HM0.out.below hb)
    have p0 := HMI.out.blk.cell 0
    simp at p0
    have i0 : (0 : Int) ≤ i := by omega
    clear hb hnc
    by_cases hin : i < n
    · have hin' : (i : Int) < n := by omega
      go_upto_region 5 with fail
      clear p0 HMI
      go_loopg [4] i (fun gh s4 wx => ∃ (k : Nat), s4 = .int .i64 k ∧ gh = i - k ∧ k ≤ i ∧ Below w.heap.size w wx ∧ ∀ b, b < k → NoClash W (rOf cl) i b)
      case atStart => exact ⟨0, rfl, rfl, Nat.zero_le _, HB0.out, fun b h => absurd h (Nat.not_lt_zero _)⟩
      case round =>
        clear HB0
        obtain ⟨k, rfl, rfl, hk, hb, hnk⟩ := hrel
        have HB0 := Lib.hid hb; have HNK := Lib.hid hnk
        have HMC := Lib.hid (HM0.out.below hb)
        have HGR : Hid (w.grownBy wr (some gc)) := Lib.hid (below_grown hb _)
        have k0 : (0 : Int) ≤ k := by omega
        clear hb hnk
        by_cases hki : k < i
        · have hki' : (k : Int) < i := by omega
          have hkn' : (k : Int) < n := by omega
          have HIN : Hid (i < ns.length) := Lib.hid (by rw [HN.out]; exact hin)
          have HKN : Hid (k < ns.length) := Lib.hid (by rw [HN.out]; omega)
          obtain ⟨Sa, ka, hka1, hka2, hA⟩ := HM0.out.nodeK HIN.out
          obtain ⟨Sb, kb, hkb1, hkb2, hB⟩ := HM0.out.nodeK HKN.out
          have HVA := HRV.out _ (List.getElem_mem HIN.out); have HVB := HRV.out _ (List.getElem_mem HKN.out)
          obtain ⟨va, hva⟩ : ∃ v : Nat, (ns[i]'HIN.out).var = (v : Int) := ⟨(ns[i]'HIN.out).var.toNat, by omega⟩
          obtain ⟨vb, hvb⟩ : ∃ v : Nat, (ns[k]'HKN.out).var = (v : Int) := ⟨(ns[k]'HKN.out).var.toNat, by omega⟩
          obtain ⟨na, hna⟩ : ∃ v, (ns[i]'HIN.out).name = v := ⟨_, rfl⟩
          obtain ⟨nb, hnb⟩ : ∃ v, (ns[k]'HKN.out).name = v := ⟨_, rfl⟩
          obtain ⟨ma, hma⟩ : ∃ v, (ns[i]'HIN.out).args.length = v := ⟨_, rfl⟩
          obtain ⟨mb, hmb⟩ : ∃ v, (ns[k]'HKN.out).args.length = v := ⟨_, rfl⟩
          have HA : Hid (∀ wx, w.grownBy wx (some gc) → wx.cell? ⟨g, i * 3, none⟩ = some (.int .i64 va) ∧ wx.cell? ⟨g, i * 3 + 1, none⟩ = some (.string na) ∧ wx.cell? ⟨g, i * 3 + 2, none⟩ = some (.slice Sa ma ka)) := Lib.hid (fun wx hg => by
            obtain ⟨h1, h2, h3, _⟩ := hA wx hg
            exact ⟨by rw [h1, hva], by rw [h2, hna], by rw [h3, hma]⟩)
          have HB : Hid (∀ wx, w.grownBy wx (some gc) → wx.cell? ⟨g, k * 3, none⟩ = some (.int .i64 vb) ∧ wx.cell? ⟨g, k * 3 + 1, none⟩ = some (.string nb) ∧ wx.cell? ⟨g, k * 3 + 2, none⟩ = some (.slice Sb mb kb)) := Lib.hid (fun wx hg => by
            obtain ⟨h1, h2, h3, _⟩ := hB wx hg
            exact ⟨by rw [h1, hvb], by rw [h2, hnb], by rw [h3, hmb]⟩)
          have HAA : Hid (∀ wx, w.grownBy wx (some gc) → ∀ j (hj : j < (ns[i]'HIN.out).args.length), ∃ ga, Sa = some ⟨ga, 0, none⟩ ∧ ga < w.heap.size ∧ wx.cell? ⟨ga, j, none⟩ = some (.int .i64 (ns[i]'HIN.out).args[j])) := Lib.hid (fun wx hg => (hA wx hg).2.2.2)
          have HBB : Hid (∀ wx, w.grownBy wx (some gc) → ∀ j (hj : j < (ns[k]'HKN.out).args.length), ∃ ga, Sb = some ⟨ga, 0, none⟩ ∧ ga < w.heap.size ∧ wx.cell? ⟨ga, j, none⟩ = some (.int .i64 (ns[k]'HKN.out).args[j])) := Lib.hid (fun wx hg => (hB wx hg).2.2.2)
          have HV : Hid ((ns[i]'HIN.out).var = (va : Int) ∧ (ns[k]'HKN.out).var = (vb : Int)) := Lib.hid ⟨hva, hvb⟩
          have HNM : Hid ((ns[i]'HIN.out).name = na ∧ (ns[k]'HKN.out).name = nb) := Lib.hid ⟨hna, hnb⟩
          have HML : Hid ((ns[i]'HIN.out).args.length = ma ∧ (ns[k]'HKN.out).args.length = mb) := Lib.hid ⟨hma, hmb⟩
          have hmaM : ma ≤ ka ∧ ka ≤ 9223372036854775807 := by rw [← hma]; unfold maxLen at hka2; omega
          have hmbM : mb ≤ kb ∧ kb ≤ 9223372036854775807 := by rw [← hmb]; unfold maxLen at hkb2; omega
          clear hA hB hva hvb hna hnb hma hmb hka1 hka2 hkb1 hkb2 HVA HVB
          have HSS : Hid (∀ w', Below wr.heap.size wr w' → (fun w' : World => w'.cell? ⟨p, 0, none⟩ = some (.slice (some ⟨g, 0, none⟩) n cn) ∧ w'.cell? ⟨g, i * 3, none⟩ = some (.int .i64 va) ∧ w'.cell? ⟨g, i * 3 + 1, none⟩ = some (.string na) ∧ w'.cell? ⟨g, i * 3 + 2, none⟩ = some (.slice Sa ma ka) ∧ w'.cell? ⟨g, k * 3, none⟩ = some (.int .i64 vb) ∧ w'.cell? ⟨g, k * 3 + 1, none⟩ = some (.string nb) ∧ w'.cell? ⟨g, k * 3 + 2, none⟩ = some (.slice Sb mb kb)) w') := Lib.hid (fun w' hb => by
            have hg := HGR.out.trans (b := wr) (c := w') (below_grown hb _)
            obtain ⟨a0, a1, a2⟩ := HA.out w' hg
            obtain ⟨b0, b1, b2⟩ := HB.out w' hg
            have p0 := (HMC.out.below hb).blk.cell 0
            simp at p0
            exact ⟨p0, a0, a1, a2, b0, b1, b2⟩)
          go_upto_region 7 with fail
          go_cut [5, 6] (fun s5 s6 wx => ∃ qa qb : Nat, s5 = .pointer (some ⟨qa, 0, none⟩) ∧ s6 = .pointer (some ⟨qb, 0, none⟩) ∧ Below wr.heap.size wr wx ∧ Blk wx qa 66 #[.int .i64 va, .string na, .slice Sa ma ka] ∧ Blk wx qb 66 #[.int .i64 vb, .string nb, .slice Sb mb kb] ∧ qa ≠ qb ∧ wr.heap.size ≤ qa ∧ wr.heap.size ≤ qb)
          case first =>
            refine wp_region_Y (S := (fun w' : World => w'.cell? ⟨p, 0, none⟩ = some (.slice (some ⟨g, 0, none⟩) n cn) ∧ w'.cell? ⟨g, i * 3, none⟩ = some (.int .i64 va) ∧ w'.cell? ⟨g, i * 3 + 1, none⟩ = some (.string na) ∧ w'.cell? ⟨g, i * 3 + 2, none⟩ = some (.slice Sa ma ka) ∧ w'.cell? ⟨g, k * 3, none⟩ = some (.int .i64 vb) ∧ w'.cell? ⟨g, k * 3 + 1, none⟩ = some (.string nb) ∧ w'.cell? ⟨g, k * 3 + 2, none⟩ = some (.slice Sb mb kb))) 17 (by kernel_rfl) (HSS.out _ (Below.refl _ _).drew) (fun hHeld => ?_)
            have HBu0 : Hid (Below wr.heap.size wr wr.drew) := Lib.hid (Below.refl _ _).drew
            obtain ⟨u0, hu0⟩ : ∃ z : World, wr.drew = z := ⟨_, rfl⟩
            rw [hu0] at HBu0 hHeld
            (try rw [hu0])
            clear hu0
            refine wpAnyY_take (i := 0) (v := ?_) rfl (by kernel_rfl) (by kernel_rfl) (by kernel_rfl) (by kernel_rfl) (fun _ _ _ h => h) (Or.inl ⟨by rfl, ?_⟩) (by assumption) ?_
            rotate_left 1
            · (intro w' hSw; obtain ⟨s0, s1, s2, s3, s4, s5, s6⟩ := hSw; go_simp); try with_reducible rfl
            try simp only [Act.put, List.setIfInBounds_toArray, List.set_cons_zero, List.set_cons_succ, Nat.zero_add]
            refine wpAnyY_take (i := 1) (v := ?_) rfl (by kernel_rfl) (by kernel_rfl) (by kernel_rfl) (by kernel_rfl) (fun _ _ _ h => h) (Or.inl ⟨by rfl, ?_⟩) (by assumption) ?_
            rotate_left 1
            · (intro w' hSw; obtain ⟨s0, s1, s2, s3, s4, s5, s6⟩ := hSw; go_simp); try with_reducible rfl
            try simp only [Act.put, List.setIfInBounds_toArray, List.set_cons_zero, List.set_cons_succ, Nat.zero_add]
            refine wpAnyY_take (i := 2) (v := ?_) rfl (by kernel_rfl) (by kernel_rfl) (by kernel_rfl) (by kernel_rfl) (fun _ _ _ h => h) (Or.inl ⟨by rfl, ?_⟩) (by assumption) ?_
            rotate_left 1
            · (intro w' hSw; obtain ⟨s0, s1, s2, s3, s4, s5, s6⟩ := hSw; go_simp); try with_reducible rfl
            try simp only [Act.put, List.setIfInBounds_toArray, List.set_cons_zero, List.set_cons_succ, Nat.zero_add]
            refine wpAnyY_take (i := 3) (v := ?_) rfl (by kernel_rfl) (by kernel_rfl) (by kernel_rfl) (by kernel_rfl) (fun _ _ _ h => h) (Or.inl ⟨by rfl, ?_⟩) (by assumption) ?_
            rotate_left 1
            · (intro w' hSw; obtain ⟨s0, s1, s2, s3, s4, s5, s6⟩ := hSw; go_simp); try with_reducible rfl
            try simp only [Act.put, List.setIfInBounds_toArray, List.set_cons_zero, List.set_cons_succ, Nat.zero_add]
            refine wpAnyY_take (i := 4) (v := ?_) rfl (by kernel_rfl) (by kernel_rfl) (by kernel_rfl) (by kernel_rfl) (fun _ _ _ h => h) (Or.inl ⟨by rfl, ?_⟩) (by assumption) ?_
            rotate_left 1
            · (intro w' hSw; obtain ⟨s0, s1, s2, s3, s4, s5, s6⟩ := hSw; go_simp); try with_reducible rfl
            try simp only [Act.put, List.setIfInBounds_toArray, List.set_cons_zero, List.set_cons_succ, Nat.zero_add]
            refine wpAnyY_take (i := 5) (v := ?_) rfl (by kernel_rfl) (by kernel_rfl) (by kernel_rfl) (by kernel_rfl) (fun _ _ _ h => h) (Or.inl ⟨by rfl, ?_⟩) (by assumption) ?_
            rotate_left 1
            · (intro w' hSw; obtain ⟨s0, s1, s2, s3, s4, s5, s6⟩ := hSw; go_simp); try with_reducible rfl
            try simp only [Act.put, List.setIfInBounds_toArray, List.set_cons_zero, List.set_cons_succ, Nat.zero_add]
            refine wpAnyY_take (i := 6) (v := ?_) rfl (by kernel_rfl) (by kernel_rfl) (by kernel_rfl) (by kernel_rfl) (fun _ _ _ h => h) (Or.inl ⟨by rfl, ?_⟩) (by assumption) ?_
            rotate_left 1
            · (intro w' hSw; obtain ⟨s0, s1, s2, s3, s4, s5, s6⟩ := hSw; go_simp); try with_reducible rfl
            try simp only [Act.put, List.setIfInBounds_toArray, List.set_cons_zero, List.set_cons_succ, Nat.zero_add]
            refine wpAnyY_take (i := 7) (v := ?_) rfl (by kernel_rfl) (by kernel_rfl) (by kernel_rfl) (by kernel_rfl) (fun _ _ _ h => h) (Or.inl ⟨by rfl, ?_⟩) (by assumption) ?_
            rotate_left 1
            · (intro w' hSw; obtain ⟨s0, s1, s2, s3, s4, s5, s6⟩ := hSw; go_simp); try with_reducible rfl
            try simp only [Act.put, List.setIfInBounds_toArray, List.set_cons_zero, List.set_cons_succ, Nat.zero_add]
            refine wpAnyY_take (i := 8) (v := ?_) rfl (by kernel_rfl) (by kernel_rfl) (by kernel_rfl) (by kernel_rfl) (fun _ _ _ h => h) (Or.inl ⟨by rfl, ?_⟩) (by assumption) ?_
            rotate_left 1
            · (intro w' hSw; obtain ⟨s0, s1, s2, s3, s4, s5, s6⟩ := hSw; go_simp); try with_reducible rfl
            try simp only [Act.put, List.setIfInBounds_toArray, List.set_cons_zero, List.set_cons_succ, Nat.zero_add]
            refine wpAnyY_take (i := 9) (v := ?_) rfl (by kernel_rfl) (by kernel_rfl) (by kernel_rfl) (by kernel_rfl) (fun _ _ _ h => h) (Or.inl ⟨by rfl, ?_⟩) (by assumption) ?_
            rotate_left 1
            · (intro w' hSw; obtain ⟨s0, s1, s2, s3, s4, s5, s6⟩ := hSw; go_simp); try with_reducible rfl
            try simp only [Act.put, List.setIfInBounds_toArray, List.set_cons_zero, List.set_cons_succ, Nat.zero_add]
            refine wpAnyY_take (i := 10) (v := ?_) rfl (by kernel_rfl) (by kernel_rfl) (by kernel_rfl) (by kernel_rfl) (fun _ _ _ h => h) (Or.inl ⟨by rfl, ?_⟩) (by assumption) ?_
            rotate_left 1
            · (intro w' hSw; obtain ⟨s0, s1, s2, s3, s4, s5, s6⟩ := hSw; go_simp); try with_reducible rfl
            try simp only [Act.put, List.setIfInBounds_toArray, List.set_cons_zero, List.set_cons_succ, Nat.zero_add]
            refine wpAnyY_take (i := 11) (v := ?_) rfl (by kernel_rfl) (by kernel_rfl) (by kernel_rfl) (by kernel_rfl) (fun _ _ _ h => h) (Or.inl ⟨by rfl, ?_⟩) (by assumption) ?_
            rotate_left 1
            · (intro w' hSw; obtain ⟨s0, s1, s2, s3, s4, s5, s6⟩ := hSw; go_simp); try with_reducible rfl
            try simp only [Act.put, List.setIfInBounds_toArray, List.set_cons_zero, List.set_cons_succ, Nat.zero_add]
            refine wpAnyY_take (i := 12) (v := ?_) rfl (by kernel_rfl) (by kernel_rfl) (by kernel_rfl) (by kernel_rfl) (fun _ _ _ h => h) (Or.inl ⟨by rfl, ?_⟩) (by assumption) ?_
            rotate_left 1
            · (intro w' hSw; obtain ⟨s0, s1, s2, s3, s4, s5, s6⟩ := hSw; go_simp); try with_reducible rfl
            try simp only [Act.put, List.setIfInBounds_toArray, List.set_cons_zero, List.set_cons_succ, Nat.zero_add]
            refine wpAnyY_take (i := 13) (v := ?_) rfl (by kernel_rfl) (by kernel_rfl) (by kernel_rfl) (by kernel_rfl) (fun _ _ _ h => h) (Or.inl ⟨by rfl, ?_⟩) (by assumption) ?_
            rotate_left 1
            · (intro w' hSw; obtain ⟨s0, s1, s2, s3, s4, s5, s6⟩ := hSw; go_simp); try with_reducible rfl
            try simp only [Act.put, List.setIfInBounds_toArray, List.set_cons_zero, List.set_cons_succ, Nat.zero_add]
            refine wpAnyY_two (i := 14) (j := 15) rfl rfl (by kernel_rfl) (fun K hK => ?_) (fun K hK => ?_)
            · go_simp
              obtain ⟨qa, hqa⟩ : ∃ z, u0.heap.size = z := ⟨_, rfl⟩
              obtain ⟨u1, hu1⟩ : ∃ z : World, u0.alloc (.cells #[.int .i64 0, .string ⟨#[]⟩, .slice none 0 0] 66) = z := ⟨_, rfl⟩
              have HBu1 : Hid (Below wr.heap.size wr u1) := Lib.hid (by rw [← hu1]; exact HBu0.out.alloc HBu0.out.size _)
              have HXqau1 : Hid (Blk u1 qa 66 #[.int .i64 0, .string ⟨#[]⟩, .slice none 0 0]) := Lib.hid (by rw [← hu1]; exact Blk.new' hqa.symm)
              have HLqa : Hid (wr.heap.size ≤ qa) := Lib.hid (by rw [← hqa]; exact HBu0.out.size)
              (try rw [hqa])
              (try rw [hu1])
              refine hK.out _ _ (fun _ => HSS.out _ HBu1.out) ?_
              clear hqa hu1
              clear hK K
              try simp only [Act.put, List.setIfInBounds_toArray, List.set_cons_zero, List.set_cons_succ, Nat.zero_add]
              refine wpAnyY_one (i := 15) rfl (by kernel_rfl) (fun K hK => ?_)
              go_simp
              obtain ⟨qb, hqb⟩ : ∃ z, u1.heap.size = z := ⟨_, rfl⟩
              obtain ⟨u2, hu2⟩ : ∃ z : World, u1.alloc (.cells #[.int .i64 0, .string ⟨#[]⟩, .slice none 0 0] 66) = z := ⟨_, rfl⟩
              have HBu2 : Hid (Below wr.heap.size wr u2) := Lib.hid (by rw [← hu2]; exact HBu1.out.alloc HBu1.out.size _)
              have HXqbu2 : Hid (Blk u2 qb 66 #[.int .i64 0, .string ⟨#[]⟩, .slice none 0 0]) := Lib.hid (by rw [← hu2]; exact Blk.new' hqb.symm)
              have HLqb : Hid (wr.heap.size ≤ qb) := Lib.hid (by rw [← hqb]; exact HBu1.out.size)
              have HXqau2 : Hid (Blk u2 qa 66 #[.int .i64 0, .string ⟨#[]⟩, .slice none 0 0]) := Lib.hid (by rw [← hu2]; exact HXqau1.out.alloc _)
              have HNE : Hid (qa ≠ qb) := Lib.hid (by rw [← hqb]; exact Nat.ne_of_lt HXqau1.out.lt)
              (try rw [hqb])
              (try rw [hu2])
              refine hK.out _ _ (fun _ => HSS.out _ HBu2.out) ?_
              clear hqb hu2
              clear hK K
              try simp only [Act.put, List.setIfInBounds_toArray, List.set_cons_zero, List.set_cons_succ, Nat.zero_add]
              refine wpAnyY_one (i := 16) rfl (by kernel_rfl) (fun K hK => ?_)
              have x0 := HXqau2.out.cell 0; have x1 := HXqau2.out.cell 1; have x2 := HXqau2.out.cell 2; have f0 := HXqau2.out.frozen 0; have f1 := HXqau2.out.frozen 1; have f2 := HXqau2.out.frozen 2; have hlt := HXqau2.out.lt
              simp at x0 x1 x2
              go_simp
              obtain ⟨u3, hu3⟩ : ∃ z : World, ((u2.setCell ⟨qa, 0, none⟩ (.int .i64 va)).setCell ⟨qa, 1, none⟩ (.string na)).setCell ⟨qa, 2, none⟩ (.slice Sa ma ka) = z := ⟨_, rfl⟩
              have HBu3 : Hid (Below wr.heap.size wr u3) := Lib.hid (by rw [← hu3]; exact ((HBu2.out.setCell (p := ⟨qa, 0, none⟩) HLqa.out _).setCell (p := ⟨qa, 1, none⟩) HLqa.out _).setCell (p := ⟨qa, 2, none⟩) HLqa.out _)
              have HXqau3 : Hid (Blk u3 qa 66 #[.int .i64 va, .string na, .slice Sa ma ka]) := Lib.hid (by rw [← hu3]; simpa using ((HXqau2.out.set_ 0 (.int .i64 va)).set_ 1 (.string na)).set_ 2 (.slice Sa ma ka))
              have HXqbu3 : Hid (Blk u3 qb 66 #[.int .i64 0, .string ⟨#[]⟩, .slice none 0 0]) := Lib.hid (by rw [← hu3]; exact ((HXqbu2.out.far (p := ⟨qa, 0, none⟩) (Ne.symm HNE.out) _).far (p := ⟨qa, 1, none⟩) (Ne.symm HNE.out) _).far (p := ⟨qa, 2, none⟩) (Ne.symm HNE.out) _)
              (try rw [hu3])
              refine hK.out _ _ (fun _ => HSS.out _ HBu3.out) ?_
              clear hu3 x0 x1 x2 f0 f1 f2 hlt
              clear hK K
              try simp only [Act.put, List.setIfInBounds_toArray, List.set_cons_zero, List.set_cons_succ, Nat.zero_add]
              refine wpAnyY_one0 (i := 17) rfl (by kernel_rfl) (by kernel_rfl) (fun K hK => ?_)
              have x0 := HXqbu3.out.cell 0; have x1 := HXqbu3.out.cell 1; have x2 := HXqbu3.out.cell 2; have f0 := HXqbu3.out.frozen 0; have f1 := HXqbu3.out.frozen 1; have f2 := HXqbu3.out.frozen 2; have hlt := HXqbu3.out.lt
              simp at x0 x1 x2
              go_simp
              obtain ⟨u4, hu4⟩ : ∃ z : World, ((u3.setCell ⟨qb, 0, none⟩ (.int .i64 vb)).setCell ⟨qb, 1, none⟩ (.string nb)).setCell ⟨qb, 2, none⟩ (.slice Sb mb kb) = z := ⟨_, rfl⟩
              have HBu4 : Hid (Below wr.heap.size wr u4) := Lib.hid (by rw [← hu4]; exact ((HBu3.out.setCell (p := ⟨qb, 0, none⟩) HLqb.out _).setCell (p := ⟨qb, 1, none⟩) HLqb.out _).setCell (p := ⟨qb, 2, none⟩) HLqb.out _)
              have HXqbu4 : Hid (Blk u4 qb 66 #[.int .i64 vb, .string nb, .slice Sb mb kb]) := Lib.hid (by rw [← hu4]; simpa using ((HXqbu3.out.set_ 0 (.int .i64 vb)).set_ 1 (.string nb)).set_ 2 (.slice Sb mb kb))
              have HXqau4 : Hid (Blk u4 qa 66 #[.int .i64 va, .string na, .slice Sa ma ka]) := Lib.hid (by rw [← hu4]; exact ((HXqau3.out.far (p := ⟨qb, 0, none⟩) HNE.out _).far (p := ⟨qb, 1, none⟩) HNE.out _).far (p := ⟨qb, 2, none⟩) HNE.out _)
              (try rw [hu4])
              refine hK.out _ _ ?_
              clear hu4 x0 x1 x2 f0 f1 f2 hlt
              clear hK K
              try simp only [Act.put, List.setIfInBounds_toArray, List.set_cons_zero, List.set_cons_succ, Nat.zero_add]
              refine wpAnyY_done (by kernel_rfl) ?_ _
              go_wp2_with fail
              go_meet
              case rel => exact ⟨qa, qb, rfl, rfl, HBu4.out, HXqau4.out, HXqbu4.out, HNE.out, HLqa.out, HLqb.out⟩
            · go_simp
              obtain ⟨qb, hqb⟩ : ∃ z, u0.heap.size = z := ⟨_, rfl⟩
              obtain ⟨u1, hu1⟩ : ∃ z : World, u0.alloc (.cells #[.int .i64 0, .string ⟨#[]⟩, .slice none 0 0] 66) = z := ⟨_, rfl⟩
              have HBu1 : Hid (Below wr.heap.size wr u1) := Lib.hid (by rw [← hu1]; exact HBu0.out.alloc HBu0.out.size _)
              have HXqbu1 : Hid (Blk u1 qb 66 #[.int .i64 0, .string ⟨#[]⟩, .slice none 0 0]) := Lib.hid (by rw [← hu1]; exact Blk.new' hqb.symm)
              have HLqb : Hid (wr.heap.size ≤ qb) := Lib.hid (by rw [← hqb]; exact HBu0.out.size)
              (try rw [hqb])
              (try rw [hu1])
              refine hK.out _ _ (fun _ => HSS.out _ HBu1.out) ?_
              clear hqb hu1
              clear hK K
              try simp only [Act.put, List.setIfInBounds_toArray, List.set_cons_zero, List.set_cons_succ, Nat.zero_add]
              refine wpAnyY_one (i := 14) rfl (by kernel_rfl) (fun K hK => ?_)
              go_simp
              obtain ⟨qa, hqa⟩ : ∃ z, u1.heap.size = z := ⟨_, rfl⟩
              obtain ⟨u2, hu2⟩ : ∃ z : World, u1.alloc (.cells #[.int .i64 0, .string ⟨#[]⟩, .slice none 0 0] 66) = z := ⟨_, rfl⟩
              have HBu2 : Hid (Below wr.heap.size wr u2) := Lib.hid (by rw [← hu2]; exact HBu1.out.alloc HBu1.out.size _)
              have HXqau2 : Hid (Blk u2 qa 66 #[.int .i64 0, .string ⟨#[]⟩, .slice none 0 0]) := Lib.hid (by rw [← hu2]; exact Blk.new' hqa.symm)
              have HLqa : Hid (wr.heap.size ≤ qa) := Lib.hid (by rw [← hqa]; exact HBu1.out.size)
              have HXqbu2 : Hid (Blk u2 qb 66 #[.int .i64 0, .string ⟨#[]⟩, .slice none 0 0]) := Lib.hid (by rw [← hu2]; exact HXqbu1.out.alloc _)
              have HNE : Hid (qb ≠ qa) := Lib.hid (by rw [← hqa]; exact Nat.ne_of_lt HXqbu1.out.lt)
              (try rw [hqa])
              (try rw [hu2])
              refine hK.out _ _ (fun _ => HSS.out _ HBu2.out) ?_
              clear hqa hu2
              clear hK K
              try simp only [Act.put, List.setIfInBounds_toArray, List.set_cons_zero, List.set_cons_succ, Nat.zero_add]
              refine wpAnyY_one (i := 16) rfl (by kernel_rfl) (fun K hK => ?_)
              have x0 := HXqau2.out.cell 0; have x1 := HXqau2.out.cell 1; have x2 := HXqau2.out.cell 2; have f0 := HXqau2.out.frozen 0; have f1 := HXqau2.out.frozen 1; have f2 := HXqau2.out.frozen 2; have hlt := HXqau2.out.lt
              simp at x0 x1 x2
              go_simp
              obtain ⟨u3, hu3⟩ : ∃ z : World, ((u2.setCell ⟨qa, 0, none⟩ (.int .i64 va)).setCell ⟨qa, 1, none⟩ (.string na)).setCell ⟨qa, 2, none⟩ (.slice Sa ma ka) = z := ⟨_, rfl⟩
              have HBu3 : Hid (Below wr.heap.size wr u3) := Lib.hid (by rw [← hu3]; exact ((HBu2.out.setCell (p := ⟨qa, 0, none⟩) HLqa.out _).setCell (p := ⟨qa, 1, none⟩) HLqa.out _).setCell (p := ⟨qa, 2, none⟩) HLqa.out _)
              have HXqau3 : Hid (Blk u3 qa 66 #[.int .i64 va, .string na, .slice Sa ma ka]) := Lib.hid (by rw [← hu3]; simpa using ((HXqau2.out.set_ 0 (.int .i64 va)).set_ 1 (.string na)).set_ 2 (.slice Sa ma ka))
              have HXqbu3 : Hid (Blk u3 qb 66 #[.int .i64 0, .string ⟨#[]⟩, .slice none 0 0]) := Lib.hid (by rw [← hu3]; exact ((HXqbu2.out.far (p := ⟨qa, 0, none⟩) HNE.out _).far (p := ⟨qa, 1, none⟩) HNE.out _).far (p := ⟨qa, 2, none⟩) HNE.out _)
              (try rw [hu3])
              refine hK.out _ _ (fun _ => HSS.out _ HBu3.out) ?_
              clear hu3 x0 x1 x2 f0 f1 f2 hlt
              clear hK K
              try simp only [Act.put, List.setIfInBounds_toArray, List.set_cons_zero, List.set_cons_succ, Nat.zero_add]
              refine wpAnyY_one0 (i := 17) rfl (by kernel_rfl) (by kernel_rfl) (fun K hK => ?_)
              have x0 := HXqbu3.out.cell 0; have x1 := HXqbu3.out.cell 1; have x2 := HXqbu3.out.cell 2; have f0 := HXqbu3.out.frozen 0; have f1 := HXqbu3.out.frozen 1; have f2 := HXqbu3.out.frozen 2; have hlt := HXqbu3.out.lt
              simp at x0 x1 x2
              go_simp
              obtain ⟨u4, hu4⟩ : ∃ z : World, ((u3.setCell ⟨qb, 0, none⟩ (.int .i64 vb)).setCell ⟨qb, 1, none⟩ (.string nb)).setCell ⟨qb, 2, none⟩ (.slice Sb mb kb) = z := ⟨_, rfl⟩
              have HBu4 : Hid (Below wr.heap.size wr u4) := Lib.hid (by rw [← hu4]; exact ((HBu3.out.setCell (p := ⟨qb, 0, none⟩) HLqb.out _).setCell (p := ⟨qb, 1, none⟩) HLqb.out _).setCell (p := ⟨qb, 2, none⟩) HLqb.out _)
              have HXqbu4 : Hid (Blk u4 qb 66 #[.int .i64 vb, .string nb, .slice Sb mb kb]) := Lib.hid (by rw [← hu4]; simpa using ((HXqbu3.out.set_ 0 (.int .i64 vb)).set_ 1 (.string nb)).set_ 2 (.slice Sb mb kb))
              have HXqau4 : Hid (Blk u4 qa 66 #[.int .i64 va, .string na, .slice Sa ma ka]) := Lib.hid (by rw [← hu4]; exact ((HXqau3.out.far (p := ⟨qb, 0, none⟩) (Ne.symm HNE.out) _).far (p := ⟨qb, 1, none⟩) (Ne.symm HNE.out) _).far (p := ⟨qb, 2, none⟩) (Ne.symm HNE.out) _)
              (try rw [hu4])
              refine hK.out _ _ ?_
              clear hu4 x0 x1 x2 f0 f1 f2 hlt
              clear hK K
              try simp only [Act.put, List.setIfInBounds_toArray, List.set_cons_zero, List.set_cons_succ, Nat.zero_add]
              refine wpAnyY_done (by kernel_rfl) ?_ _
              go_wp2_with fail
              go_meet
              case rel => exact ⟨qa, qb, rfl, rfl, HBu4.out, HXqau4.out, HXqbu4.out, Ne.symm HNE.out, HLqa.out, HLqb.out⟩
          case rest =>
            obtain ⟨qa, qb, rfl, rfl, hb, hxa, hxb, hne, hla, hlb⟩ := hcut
            have HXA := Lib.hid hxa; have HXB := Lib.hid hxb
            have HBD : Hid (Below w.heap.size w wc) := Lib.hid (HB0.out.trans (hb.mono HB0.out.size))
            have HMD := HMC.out.below hb
            clear hb hne hla hlb HSS
            have a0 := HXA.out.cell 0; have a1 := HXA.out.cell 1; have a2 := HXA.out.cell 2; have b0 := HXB.out.cell 0; have b1 := HXB.out.cell 1; have b2 := HXB.out.cell 2
            simp at a0 a1 a2 b0 b1 b2
            have p1 := HMD.blk.cell 1
            simp at p1
            have HIC : Hid (i < cl.length) := Lib.hid (by rw [HRW.out.cn]; exact HIN.out)
            have HKC : Hid (k < cl.length) := Lib.hid (by rw [HRW.out.cn]; exact HKN.out)
            obtain ⟨e0, _, _⟩ := HMD.clsG HIC.out
            obtain ⟨e1, _, _⟩ := HMD.clsG HKC.out
            obtain ⟨x, hx⟩ : ∃ x, cl[i]'HIC.out = x := ⟨_, rfl⟩
            obtain ⟨y, hy⟩ : ∃ y, cl[k]'HKC.out = y := ⟨_, rfl⟩
            have HXY : Hid (rOf cl i = x ∧ rOf cl k = y) := Lib.hid ⟨by rw [rOf_at HIC.out, hx], by rw [rOf_at HKC.out, hy]⟩
            rw [hx] at e0
            rw [hy] at e1
            clear HMD hxa hxb hx hy
            have HXY2 := Lib.hid HXY.out
            obtain ⟨c2, hc2⟩ : ∃ c : Bool, c = decide (x = y ∧ va = 0 ∧ vb = 0 ∧ (na ≠ nb ∨ ma ≠ mb)) := ⟨_, rfl⟩
            have HC2 := Lib.hid hc2
            have HC3 := Lib.hid hc2
            clear hc2
            obtain ⟨wq, hwq⟩ : ∃ z, z = wc := ⟨_, rfl⟩
            subst hwq
            go_upto_region 8 with fail
            go_cut [75] (fun s75 wx => s75 = .bool c2 ∧ ∃ nq : Nat, wx = wq.drewN nq)
            case first =>
              by_cases hxy : x = y
              case neg =>
                have g1 : ((x : Int) == (y : Int)) = false := by simp; omega
                have HE : Hid (c2 = false) := Lib.hid (by rw [HC2.out]; simp; omega)
                clear HMC HGR HXA HXB HXY HC2
                go_quiet (fail)
                go_wp2_with fail
                go_meet
                case rel => exact ⟨by rw [HE.out], _, rfl⟩
              case pos =>
              have g1 : ((x : Int) == (y : Int)) = true := by simp; omega
              by_cases hva : va = 0
              case neg =>
                have g2 : ((va : Int) == 0) = false := by simp; omega
                have HE : Hid (c2 = false) := Lib.hid (by rw [HC2.out]; simp; omega)
                clear HMC HGR HXA HXB HXY HC2
                go_quiet (fail)
                go_wp2_with fail
                go_meet
                case rel => exact ⟨by rw [HE.out], _, rfl⟩
              case pos =>
              have g2 : ((va : Int) == 0) = true := by simp; omega
              by_cases hvb : vb = 0
              case neg =>
                have g3 : ((vb : Int) == 0) = false := by simp; omega
                have HE : Hid (c2 = false) := Lib.hid (by rw [HC2.out]; simp; omega)
                clear HMC HGR HXA HXB HXY HC2
                go_quiet (fail)
                go_wp2_with fail
                go_meet
                case rel => exact ⟨by rw [HE.out], _, rfl⟩
              case pos =>
              have g3 : ((vb : Int) == 0) = true := by simp; omega
              by_cases hnn : na = nb
              case neg =>
                have g4 : (na.toList != nb.toList) = true := by simp [bytes_toList]; exact hnn
                have g4b : (na.toList == nb.toList) = false := by simp [bytes_toList]; exact hnn
                have g4c : na.toList ≠ nb.toList := by simp [bytes_toList]; exact hnn
                have HE : Hid (c2 = true) := Lib.hid (by rw [HC2.out]; simp; exact ⟨by omega, by omega, by omega, .inl hnn⟩)
                clear HMC HGR HXA HXB HXY HC2
                go_quiet (fail)
                go_wp2_with fail
                go_meet
                case rel => exact ⟨by rw [HE.out], _, rfl⟩
              case pos =>
              have g4 : (na.toList != nb.toList) = false := by simp [bytes_toList]; exact hnn
              have g4b : (na.toList == nb.toList) = true := by simp [bytes_toList]; exact hnn
              have g4c : na.toList = nb.toList := by rw [hnn]
              by_cases hmm : ma = mb
              case neg =>
                have g5 : ((ma : Int) != (mb : Int)) = true := by simp; omega
                have HE : Hid (c2 = true) := Lib.hid (by rw [HC2.out]; simp; exact ⟨by omega, by omega, by omega, .inr hmm⟩)
                clear HMC HGR HXA HXB HXY HC2
                go_quiet (fail)
                go_wp2_with fail
                go_meet
                case rel => exact ⟨by rw [HE.out], _, rfl⟩
              case pos =>
              have g5 : ((ma : Int) != (mb : Int)) = false := by simp; omega
              have HE : Hid (c2 = false) := Lib.hid (by rw [HC2.out]; simp; intros; exact ⟨hnn, hmm⟩)
              clear HMC HGR HXA HXB HXY HC2
              go_quiet (fail)
              go_wp2_with fail
              go_meet
              case rel => exact ⟨by rw [HE.out], _, rfl⟩
            case rest =>
            obtain ⟨rfl, nq, hwd⟩ := hcut
            have HB6 := Lib.hid (below_drewN HBD.out nq)
            rw [← hwd] at HB6
            clear hwd a0 a1 a2 b0 b1 b2 e0 e1 p1 HXA HXB HBD HB0
            have HEQ : Hid (c2 = decide (rOf cl i = rOf cl k ∧ (ns[i]'HIN.out).var = 0 ∧ (ns[k]'HKN.out).var = 0 ∧ ((ns[i]'HIN.out).name ≠ (ns[k]'HKN.out).name ∨ (ns[i]'HIN.out).args.length ≠ (ns[k]'HKN.out).args.length))) := Lib.hid (by
              rw [HC3.out, HXY2.out.1, HXY2.out.2, HV.out.1, HV.out.2, HNM.out.1, HNM.out.2, HML.out.1, HML.out.2]
              simp only [Int.natCast_eq_zero])
            go_upto_if 75 with fail
            cases c2
            case true =>
              have HCL : Hid (Comes E .clash) := Lib.hid (by
                obtain ⟨h1, h2, h3, h4⟩ := of_decide_eq_true HEQ.out.symm
                refine HRW.out.clash HIN.out HKN.out h1 (HRW.out.app_ HIN.out h2) (HRW.out.app_ HKN.out h3) ?_
                rw [List.length_map, List.length_map]; exact h4)
              go_wp2
              go_ret
              exact ⟨.inl ⟨rfl, HCL.out⟩, HB6.out⟩
            case false =>
              have HNK2 : Hid (∀ b, b < k + 1 → NoClash W (rOf cl) i b) := Lib.hid (fun b hb => by
                by_cases e : b < k
                · exact HNK.out b e
                · rw [show b = k by omega]; exact NoClash.of HRW.out HIN.out HKN.out (of_decide_eq_false HEQ.out.symm))
              go_wp2
              go_roundg (i - (k + 1))
              case measure => omega
              case rel => exact ⟨k + 1, by go_num, rfl, by omega, HB6.out, HNK2.out⟩
        · have hki' : ¬ (k : Int) < i := by omega
          have HNC2 : Hid (∀ a b, b < a → a < i + 1 → NoClash W (rOf cl) a b) := Lib.hid (fun a b h1 h2 => by
            by_cases e : a < i
            · exact HNC.out a b h1 e
            · rw [show a = i by omega] at h1 ⊢; exact HNK.out b (by omega))
          go_wp2
          go_roundg (n - (i + 1))
          case measure => omega
          case rel => exact ⟨i + 1, by go_num, rfl, by omega, HB0.out, HNC2.out⟩
    · have hin' : ¬ (i : Int) < n := by omega
      have HNC2 : Hid (∀ a b, b < a → a < ns.length → NoClash W (rOf cl) a b) := Lib.hid (fun a b h1 h2 => HNC.out a b h1 (by rw [HN.out] at h2; omega))
      go_wp2
      go_ret
      exact ⟨.inr ⟨rfl, HNC2.out⟩, HB0.out⟩
end Go.Proofs.Ytgcbnndbeoekgaa
