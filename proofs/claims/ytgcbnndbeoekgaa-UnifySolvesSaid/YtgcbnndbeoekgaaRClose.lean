/- the document's web.close: all that meets by what met -/
import Derived.Test.YtgcbnndbeoekgaaRJoin
import Derived.Test.YtgcbnndbeoekgaaRCloseP
set_option linter.unusedSimpArgs false
set_option linter.unusedVariables false
namespace Go.Proofs.Ytgcbnndbeoekgaa
open Go Go.RowKit Go.Maps

theorem below_grown {w w' : World} (h : Below w.heap.size w w') (row : Option Nat) : w.grownBy w' row := ⟨h.os, h.tape, h.output, h.size, fun k hk _ => h.block k hk⟩
/-- what close leaves -/
structure ClosedM (w : World) (B p : Nat) (nv cv : Value) (W : WebT) (E : List (Fo × Fo)) (ns : List TN) (cl : List Nat) (w' : World) : Prop where
  mem : RM w' B p nv cv ns cl
  grown : w.grownBy w' cv.ownBlock
  rw : RW W E ns cl
  meets : Meets W (rOf cl) E
  all : ∀ i k, k < i → i < ns.length → CP W (rOf cl) i k
def SomeClosed (w : World) (B p : Nat) (nv cv : Value) (W : WebT) (E : List (Fo × Fo)) (ns : List TN) (e : Ending) (w' : World) : Prop := e = .returned (.tuple #[]) ∧ ∃ cl, ClosedM w B p nv cv W E ns cl w'

set_option maxRecDepth 100000 in
set_option maxHeartbeats 16000000 in
theorem rclose_any (w : World) (B p g gc n cn cc : Nat) (ns : List TN) (cl0 : List Nat) (W : WebT) (E : List (Fo × Fo)) (hm : RM w B p (.slice (some ⟨g, 0, none⟩) n cn) (.slice (some ⟨gc, 0, none⟩) n cc) ns cl0) (hrw : RW W E ns cl0) (hme : Meets W (rOf cl0) E) (hl : n ≤ 1048576) (hn : ns.length = n) :
    Calls Try.prog 50 #[.pointer (some ⟨p, 0, none⟩)] w (SomeClosed w B p (.slice (some ⟨g, 0, none⟩) n cn) (.slice (some ⟨gc, 0, none⟩) n cc) W E ns) := by
  have HM0 := Lib.hid hm; have HRW0 := Lib.hid hrw; have HME0 := Lib.hid hme; have HN := Lib.hid hn
  have HRV : Hid (∀ t ∈ ns, 0 ≤ t.var ∧ t.var ≤ 2147483647) := Lib.hid (fun t ht => (hrw.node t ht).var)
  clear hm hrw hme hn
  go_enter Try.func50, Try.ntmps50
  go_upto_region 1 with fail
  go_loopg [2] (rootsN n (rOf cl0) + 1) (fun gh s2 wx => ∃ (cl1 : List Nat) (more : Bool), s2 = .bool more ∧ gh = (if more then rootsN n (rOf cl1) + 1 else 0) ∧ RW W E ns cl1 ∧ Meets W (rOf cl1) E ∧ RM wx B p (.slice (some ⟨g, 0, none⟩) n cn) (.slice (some ⟨gc, 0, none⟩) n cc) ns cl1 ∧ w.grownBy wx (some gc) ∧ (more = false → ∀ i k, k < i → i < ns.length → CP W (rOf cl1) i k))
  case atStart => exact ⟨cl0, true, rfl, rfl, HRW0.out, HME0.out, HM0.out, World.grownBy.refl _ _, fun h => by cases h⟩
  case round =>
    obtain ⟨cl1, more, rfl, rfl, hrw, hme, hm, hg, hcp⟩ := hrel
    have HRW := Lib.hid hrw; have HME := Lib.hid hme; have HM := Lib.hid hm; have HG := Lib.hid hg; have HCP := Lib.hid hcp
    clear hrw hme hm hg hcp
    cases more
    · go_wp2
      refine bodyPost_ret (results_none rfl _ _ _) rfl ?_
      exact ⟨rfl, cl1, HM.out, HG.out, HRW.out, HME.out, by first | exact HCP.out rfl | exact HCP.out trivial⟩
    · clear HCP
      go_upto_region 4 with fail
      have HCS0 : Hid (CS W E ns cl1 0 0 cl1 false) := Lib.hid (CS.start HRW.out HME.out)
      go_loopg [2, 3] n (fun gh s2 s3 wx => ∃ (i : Nat) (cl : List Nat) (more : Bool), s2 = .bool more ∧ s3 = .int .i64 i ∧ gh = n - i ∧ i ≤ n ∧ CS W E ns cl1 i 0 cl more ∧ RM wx B p (.slice (some ⟨g, 0, none⟩) n cn) (.slice (some ⟨gc, 0, none⟩) n cc) ns cl ∧ w.grownBy wx (some gc))
      case atStart => exact ⟨0, cl1, false, rfl, rfl, rfl, Nat.zero_le _, HCS0.out, HM.out, HG.out⟩
      case round =>
        clear HCS0 HM HG HRW HME
        obtain ⟨i, cl, more, rfl, rfl, rfl, hi, hcs, hm, hg⟩ := hrel
        have HCS := Lib.hid hcs; have HM := Lib.hid hm; have HG := Lib.hid hg
        have p0 := hm.blk.cell 0
        simp at p0
        have i0 : (0 : Int) ≤ i := by omega
        clear hcs hm hg
        by_cases hin : i < n
        · have hin' : (i : Int) < n := by omega
          go_upto_region 7 with fail
          clear p0
          go_loopg [2, 4] i (fun gh s2 s4 wx => ∃ (k : Nat) (cl : List Nat) (more : Bool), s2 = .bool more ∧ s4 = .int .i64 k ∧ gh = i - k ∧ k ≤ i ∧ CS W E ns cl1 i k cl more ∧ RM wx B p (.slice (some ⟨g, 0, none⟩) n cn) (.slice (some ⟨gc, 0, none⟩) n cc) ns cl ∧ w.grownBy wx (some gc))
          case atStart => exact ⟨0, cl, more, rfl, rfl, rfl, Nat.zero_le _, HCS.out, HM.out, HG.out⟩
          case round =>
            clear HCS HM HG
            clear cl more
            obtain ⟨k, cl, more, rfl, rfl, rfl, hk, hcs, hm, hg⟩ := hrel
            have HCS := Lib.hid hcs; have HMC := Lib.hid hm; have HGR := Lib.hid hg
            have k0 : (0 : Int) ≤ k := by omega
            clear hcs hm hg
            by_cases hki : k < i
            · have hki' : (k : Int) < i := by omega
              have hkn' : (k : Int) < n := by omega
              have HIN : Hid (i < ns.length) := Lib.hid (by rw [HN.out]; exact hin)
              have HKN : Hid (k < ns.length) := Lib.hid (by rw [HN.out]; omega)
              obtain ⟨Sa, ka, hka1, hka2, hA⟩ := HM0.out.nodeK HIN.out
              obtain ⟨Sb, kb, hkb1, hkb2, hB⟩ := HM0.out.nodeK HKN.out
              have HVA := HRV.out _ (List.getElem_mem HIN.out); have HVB := HRV.out _ (List.getElem_mem HKN.out)
              obtain ⟨va, hva⟩ : ∃ v : Nat, (ns[i]'HIN.out).var = (v : Int) := ⟨(ns[i]'HIN.out).var.toNat, by omega⟩
              obtain ⟨vb, hvb⟩ : ∃ v : Nat, (ns[k]'HKN.out).var = (v : Int) := ⟨(ns[k]'HKN.out).var.toNat, by omega⟩
              obtain ⟨na, hna⟩ : ∃ v, (ns[i]'HIN.out).name = v := ⟨_, rfl⟩
              obtain ⟨nb, hnb⟩ : ∃ v, (ns[k]'HKN.out).name = v := ⟨_, rfl⟩
              obtain ⟨ma, hma⟩ : ∃ v, (ns[i]'HIN.out).args.length = v := ⟨_, rfl⟩
              obtain ⟨mb, hmb⟩ : ∃ v, (ns[k]'HKN.out).args.length = v := ⟨_, rfl⟩
              have HA : Hid (∀ wx, w.grownBy wx (some gc) → wx.cell? ⟨g, i * 3, none⟩ = some (.int .i64 va) ∧ wx.cell? ⟨g, i * 3 + 1, none⟩ = some (.string na) ∧ wx.cell? ⟨g, i * 3 + 2, none⟩ = some (.slice Sa ma ka)) := Lib.hid (fun wx hg => by
                obtain ⟨h1, h2, h3, _⟩ := hA wx hg
                exact ⟨by rw [h1, hva], by rw [h2, hna], by rw [h3, hma]⟩)
              have HB : Hid (∀ wx, w.grownBy wx (some gc) → wx.cell? ⟨g, k * 3, none⟩ = some (.int .i64 vb) ∧ wx.cell? ⟨g, k * 3 + 1, none⟩ = some (.string nb) ∧ wx.cell? ⟨g, k * 3 + 2, none⟩ = some (.slice Sb mb kb)) := Lib.hid (fun wx hg => by
                obtain ⟨h1, h2, h3, _⟩ := hB wx hg
                exact ⟨by rw [h1, hvb], by rw [h2, hnb], by rw [h3, hmb]⟩)
              have HAA : Hid (∀ wx, w.grownBy wx (some gc) → ∀ j (hj : j < (ns[i]'HIN.out).args.length), ∃ ga, Sa = some ⟨ga, 0, none⟩ ∧ ga < w.heap.size ∧ wx.cell? ⟨ga, j, none⟩ = some (.int .i64 (ns[i]'HIN.out).args[j])) := Lib.hid (fun wx hg => (hA wx hg).2.2.2)
              have HBB : Hid (∀ wx, w.grownBy wx (some gc) → ∀ j (hj : j < (ns[k]'HKN.out).args.length), ∃ ga, Sb = some ⟨ga, 0, none⟩ ∧ ga < w.heap.size ∧ wx.cell? ⟨ga, j, none⟩ = some (.int .i64 (ns[k]'HKN.out).args[j])) := Lib.hid (fun wx hg => (hB wx hg).2.2.2)
              have HV : Hid ((ns[i]'HIN.out).var = (va : Int) ∧ (ns[k]'HKN.out).var = (vb : Int)) := Lib.hid ⟨hva, hvb⟩
              have HNM : Hid ((ns[i]'HIN.out).name = na ∧ (ns[k]'HKN.out).name = nb) := Lib.hid ⟨hna, hnb⟩
              have HML : Hid ((ns[i]'HIN.out).args.length = ma ∧ (ns[k]'HKN.out).args.length = mb) := Lib.hid ⟨hma, hmb⟩
              have hmaM : ma ≤ ka ∧ ka ≤ 9223372036854775807 := by rw [← hma]; unfold maxLen at hka2; omega
              have hmbM : mb ≤ kb ∧ kb ≤ 9223372036854775807 := by rw [← hmb]; unfold maxLen at hkb2; omega
              clear hA hB hva hvb hna hnb hma hmb hka1 hka2 hkb1 hkb2 HVA HVB
              have HSS : Hid (∀ w', Below wr.heap.size wr w' → (fun w' : World => w'.cell? ⟨p, 0, none⟩ = some (.slice (some ⟨g, 0, none⟩) n cn) ∧ w'.cell? ⟨g, i * 3, none⟩ = some (.int .i64 va) ∧ w'.cell? ⟨g, i * 3 + 1, none⟩ = some (.string na) ∧ w'.cell? ⟨g, i * 3 + 2, none⟩ = some (.slice Sa ma ka) ∧ w'.cell? ⟨g, k * 3, none⟩ = some (.int .i64 vb) ∧ w'.cell? ⟨g, k * 3 + 1, none⟩ = some (.string nb) ∧ w'.cell? ⟨g, k * 3 + 2, none⟩ = some (.slice Sb mb kb)) w') := Lib.hid (fun w' hb => by
                have hg := HGR.out.trans (b := wr) (c := w') (below_grown hb _)
                obtain ⟨a0, a1, a2⟩ := HA.out w' hg
                obtain ⟨b0, b1, b2⟩ := HB.out w' hg
                have p0 := (HMC.out.below hb).blk.cell 0
                simp at p0
                exact ⟨p0, a0, a1, a2, b0, b1, b2⟩)
              go_upto_region 9 with fail
              go_cut [5, 6] (fun s5 s6 wx => ∃ qa qb : Nat, s5 = .pointer (some ⟨qa, 0, none⟩) ∧ s6 = .pointer (some ⟨qb, 0, none⟩) ∧ Below wr.heap.size wr wx ∧ Blk wx qa 66 #[.int .i64 va, .string na, .slice Sa ma ka] ∧ Blk wx qb 66 #[.int .i64 vb, .string nb, .slice Sb mb kb] ∧ qa ≠ qb ∧ wr.heap.size ≤ qa ∧ wr.heap.size ≤ qb)
              case first =>
                refine wp_region_Y (S := (fun w' : World => w'.cell? ⟨p, 0, none⟩ = some (.slice (some ⟨g, 0, none⟩) n cn) ∧ w'.cell? ⟨g, i * 3, none⟩ = some (.int .i64 va) ∧ w'.cell? ⟨g, i * 3 + 1, none⟩ = some (.string na) ∧ w'.cell? ⟨g, i * 3 + 2, none⟩ = some (.slice Sa ma ka) ∧ w'.cell? ⟨g, k * 3, none⟩ = some (.int .i64 vb) ∧ w'.cell? ⟨g, k * 3 + 1, none⟩ = some (.string nb) ∧ w'.cell? ⟨g, k * 3 + 2, none⟩ = some (.slice Sb mb kb))) 17 (by kernel_rfl) (HSS.out _ (Below.refl _ _).drew) (fun hHeld => ?_)
                have HBu0 : Hid (Below wr.heap.size wr wr.drew) := Lib.hid (Below.refl _ _).drew
                obtain ⟨u0, hu0⟩ : ∃ z : World, wr.drew = z := ⟨_, rfl⟩
                rw [hu0] at HBu0 hHeld
                (try rw [hu0])
                clear hu0
                refine wpAnyY_take (i := 0) (v := ?_) rfl (by kernel_rfl) (by kernel_rfl) (by kernel_rfl) (by kernel_rfl) (fun _ _ _ h => h) (Or.inl ⟨by rfl, ?_⟩) (by assumption) ?_
                rotate_left 1
                · (intro w' hSw; obtain ⟨s0, s1, s2, s3, s4, s5, s6⟩ := hSw; go_simp); try with_reducible rfl
                try simp only [Act.put, List.setIfInBounds_toArray, List.set_cons_zero, List.set_cons_succ, Nat.zero_add]
                refine wpAnyY_take (i := 1) (v := ?_) rfl (by kernel_rfl) (by kernel_rfl) (by kernel_rfl) (by kernel_rfl) (fun _ _ _ h => h) (Or.inl ⟨by rfl, ?_⟩) (by assumption) ?_
                rotate_left 1
                · (intro w' hSw; obtain ⟨s0, s1, s2, s3, s4, s5, s6⟩ := hSw; go_simp); try with_reducible rfl
                try simp only [Act.put, List.setIfInBounds_toArray, List.set_cons_zero, List.set_cons_succ, Nat.zero_add]
                refine wpAnyY_take (i := 2) (v := ?_) rfl (by kernel_rfl) (by kernel_rfl) (by kernel_rfl) (by kernel_rfl) (fun _ _ _ h => h) (Or.inl ⟨by rfl, ?_⟩) (by assumption) ?_
                rotate_left 1
                · (intro w' hSw; obtain ⟨s0, s1, s2, s3, s4, s5, s6⟩ := hSw; go_simp); try with_reducible rfl
                try simp only [Act.put, List.setIfInBounds_toArray, List.set_cons_zero, List.set_cons_succ, Nat.zero_add]
                refine wpAnyY_take (i := 3) (v := ?_) rfl (by kernel_rfl) (by kernel_rfl) (by kernel_rfl) (by kernel_rfl) (fun _ _ _ h => h) (Or.inl ⟨by rfl, ?_⟩) (by assumption) ?_
                rotate_left 1
                · (intro w' hSw; obtain ⟨s0, s1, s2, s3, s4, s5, s6⟩ := hSw; go_simp); try with_reducible rfl
                try simp only [Act.put, List.setIfInBounds_toArray, List.set_cons_zero, List.set_cons_succ, Nat.zero_add]
                refine wpAnyY_take (i := 4) (v := ?_) rfl (by kernel_rfl) (by kernel_rfl) (by kernel_rfl) (by kernel_rfl) (fun _ _ _ h => h) (Or.inl ⟨by rfl, ?_⟩) (by assumption) ?_
                rotate_left 1
                · (intro w' hSw; obtain ⟨s0, s1, s2, s3, s4, s5, s6⟩ := hSw; go_simp); try with_reducible rfl
                try simp only [Act.put, List.setIfInBounds_toArray, List.set_cons_zero, List.set_cons_succ, Nat.zero_add]
                refine wpAnyY_take (i := 5) (v := ?_) rfl (by kernel_rfl) (by kernel_rfl) (by kernel_rfl) (by kernel_rfl) (fun _ _ _ h => h) (Or.inl ⟨by rfl, ?_⟩) (by assumption) ?_
                rotate_left 1
                · (intro w' hSw; obtain ⟨s0, s1, s2, s3, s4, s5, s6⟩ := hSw; go_simp); try with_reducible rfl
                try simp only [Act.put, List.setIfInBounds_toArray, List.set_cons_zero, List.set_cons_succ, Nat.zero_add]
                refine wpAnyY_take (i := 6) (v := ?_) rfl (by kernel_rfl) (by kernel_rfl) (by kernel_rfl) (by kernel_rfl) (fun _ _ _ h => h) (Or.inl ⟨by rfl, ?_⟩) (by assumption) ?_
                rotate_left 1
                · (intro w' hSw; obtain ⟨s0, s1, s2, s3, s4, s5, s6⟩ := hSw; go_simp); try with_reducible rfl
                try simp only [Act.put, List.setIfInBounds_toArray, List.set_cons_zero, List.set_cons_succ, Nat.zero_add]
                refine wpAnyY_take (i := 7) (v := ?_) rfl (by kernel_rfl) (by kernel_rfl) (by kernel_rfl) (by kernel_rfl) (fun _ _ _ h => h) (Or.inl ⟨by rfl, ?_⟩) (by assumption) ?_
                rotate_left 1
                · (intro w' hSw; obtain ⟨s0, s1, s2, s3, s4, s5, s6⟩ := hSw; go_simp); try with_reducible rfl
                try simp only [Act.put, List.setIfInBounds_toArray, List.set_cons_zero, List.set_cons_succ, Nat.zero_add]
                refine wpAnyY_take (i := 8) (v := ?_) rfl (by kernel_rfl) (by kernel_rfl) (by kernel_rfl) (by kernel_rfl) (fun _ _ _ h => h) (Or.inl ⟨by rfl, ?_⟩) (by assumption) ?_
                rotate_left 1
                · (intro w' hSw; obtain ⟨s0, s1, s2, s3, s4, s5, s6⟩ := hSw; go_simp); try with_reducible rfl
                try simp only [Act.put, List.setIfInBounds_toArray, List.set_cons_zero, List.set_cons_succ, Nat.zero_add]
                refine wpAnyY_take (i := 9) (v := ?_) rfl (by kernel_rfl) (by kernel_rfl) (by kernel_rfl) (by kernel_rfl) (fun _ _ _ h => h) (Or.inl ⟨by rfl, ?_⟩) (by assumption) ?_
                rotate_left 1
                · (intro w' hSw; obtain ⟨s0, s1, s2, s3, s4, s5, s6⟩ := hSw; go_simp); try with_reducible rfl
                try simp only [Act.put, List.setIfInBounds_toArray, List.set_cons_zero, List.set_cons_succ, Nat.zero_add]
                refine wpAnyY_take (i := 10) (v := ?_) rfl (by kernel_rfl) (by kernel_rfl) (by kernel_rfl) (by kernel_rfl) (fun _ _ _ h => h) (Or.inl ⟨by rfl, ?_⟩) (by assumption) ?_
                rotate_left 1
                · (intro w' hSw; obtain ⟨s0, s1, s2, s3, s4, s5, s6⟩ := hSw; go_simp); try with_reducible rfl
                try simp only [Act.put, List.setIfInBounds_toArray, List.set_cons_zero, List.set_cons_succ, Nat.zero_add]
                refine wpAnyY_take (i := 11) (v := ?_) rfl (by kernel_rfl) (by kernel_rfl) (by kernel_rfl) (by kernel_rfl) (fun _ _ _ h => h) (Or.inl ⟨by rfl, ?_⟩) (by assumption) ?_
                rotate_left 1
                · (intro w' hSw; obtain ⟨s0, s1, s2, s3, s4, s5, s6⟩ := hSw; go_simp); try with_reducible rfl
                try simp only [Act.put, List.setIfInBounds_toArray, List.set_cons_zero, List.set_cons_succ, Nat.zero_add]
                refine wpAnyY_take (i := 12) (v := ?_) rfl (by kernel_rfl) (by kernel_rfl) (by kernel_rfl) (by kernel_rfl) (fun _ _ _ h => h) (Or.inl ⟨by rfl, ?_⟩) (by assumption) ?_
                rotate_left 1
                · (intro w' hSw; obtain ⟨s0, s1, s2, s3, s4, s5, s6⟩ := hSw; go_simp); try with_reducible rfl
                try simp only [Act.put, List.setIfInBounds_toArray, List.set_cons_zero, List.set_cons_succ, Nat.zero_add]
                refine wpAnyY_take (i := 13) (v := ?_) rfl (by kernel_rfl) (by kernel_rfl) (by kernel_rfl) (by kernel_rfl) (fun _ _ _ h => h) (Or.inl ⟨by rfl, ?_⟩) (by assumption) ?_
                rotate_left 1
                · (intro w' hSw; obtain ⟨s0, s1, s2, s3, s4, s5, s6⟩ := hSw; go_simp); try with_reducible rfl
                try simp only [Act.put, List.setIfInBounds_toArray, List.set_cons_zero, List.set_cons_succ, Nat.zero_add]
                refine wpAnyY_two (i := 14) (j := 15) rfl rfl (by kernel_rfl) (fun K hK => ?_) (fun K hK => ?_)
                · go_simp
                  obtain ⟨qa, hqa⟩ : ∃ z, u0.heap.size = z := ⟨_, rfl⟩
                  obtain ⟨u1, hu1⟩ : ∃ z : World, u0.alloc (.cells #[.int .i64 0, .string ⟨#[]⟩, .slice none 0 0] 66) = z := ⟨_, rfl⟩
                  have HBu1 : Hid (Below wr.heap.size wr u1) := Lib.hid (by rw [← hu1]; exact HBu0.out.alloc HBu0.out.size _)
                  have HXqau1 : Hid (Blk u1 qa 66 #[.int .i64 0, .string ⟨#[]⟩, .slice none 0 0]) := Lib.hid (by rw [← hu1]; exact Blk.new' hqa.symm)
                  have HLqa : Hid (wr.heap.size ≤ qa) := Lib.hid (by rw [← hqa]; exact HBu0.out.size)
                  (try rw [hqa])
                  (try rw [hu1])
                  refine hK.out _ _ (fun _ => HSS.out _ HBu1.out) ?_
                  clear hqa hu1
                  clear hK K
                  try simp only [Act.put, List.setIfInBounds_toArray, List.set_cons_zero, List.set_cons_succ, Nat.zero_add]
                  refine wpAnyY_one (i := 15) rfl (by kernel_rfl) (fun K hK => ?_)
                  go_simp
                  obtain ⟨qb, hqb⟩ : ∃ z, u1.heap.size = z := ⟨_, rfl⟩
                  obtain ⟨u2, hu2⟩ : ∃ z : World, u1.alloc (.cells #[.int .i64 0, .string ⟨#[]⟩, .slice none 0 0] 66) = z := ⟨_, rfl⟩
                  have HBu2 : Hid (Below wr.heap.size wr u2) := Lib.hid (by rw [← hu2]; exact HBu1.out.alloc HBu1.out.size _)
                  have HXqbu2 : Hid (Blk u2 qb 66 #[.int .i64 0, .string ⟨#[]⟩, .slice none 0 0]) := Lib.hid (by rw [← hu2]; exact Blk.new' hqb.symm)
                  have HLqb : Hid (wr.heap.size ≤ qb) := Lib.hid (by rw [← hqb]; exact HBu1.out.size)
                  have HXqau2 : Hid (Blk u2 qa 66 #[.int .i64 0, .string ⟨#[]⟩, .slice none 0 0]) := Lib.hid (by rw [← hu2]; exact HXqau1.out.alloc _)
                  have HNE : Hid (qa ≠ qb) := Lib.hid (by rw [← hqb]; exact Nat.ne_of_lt HXqau1.out.lt)
                  (try rw [hqb])
                  (try rw [hu2])
                  refine hK.out _ _ (fun _ => HSS.out _ HBu2.out) ?_
                  clear hqb hu2
                  clear hK K
                  try simp only [Act.put, List.setIfInBounds_toArray, List.set_cons_zero, List.set_cons_succ, Nat.zero_add]
                  refine wpAnyY_one (i := 16) rfl (by kernel_rfl) (fun K hK => ?_)
                  have x0 := HXqau2.out.cell 0; have x1 := HXqau2.out.cell 1; have x2 := HXqau2.out.cell 2; have f0 := HXqau2.out.frozen 0; have f1 := HXqau2.out.frozen 1; have f2 := HXqau2.out.frozen 2; have hlt := HXqau2.out.lt
                  simp at x0 x1 x2
                  go_simp
                  obtain ⟨u3, hu3⟩ : ∃ z : World, ((u2.setCell ⟨qa, 0, none⟩ (.int .i64 va)).setCell ⟨qa, 1, none⟩ (.string na)).setCell ⟨qa, 2, none⟩ (.slice Sa ma ka) = z := ⟨_, rfl⟩
                  have HBu3 : Hid (Below wr.heap.size wr u3) := Lib.hid (by rw [← hu3]; exact ((HBu2.out.setCell (p := ⟨qa, 0, none⟩) HLqa.out _).setCell (p := ⟨qa, 1, none⟩) HLqa.out _).setCell (p := ⟨qa, 2, none⟩) HLqa.out _)
                  have HXqau3 : Hid (Blk u3 qa 66 #[.int .i64 va, .string na, .slice Sa ma ka]) := Lib.hid (by rw [← hu3]; simpa using ((HXqau2.out.set_ 0 (.int .i64 va)).set_ 1 (.string na)).set_ 2 (.slice Sa ma ka))
                  have HXqbu3 : Hid (Blk u3 qb 66 #[.int .i64 0, .string ⟨#[]⟩, .slice none 0 0]) := Lib.hid (by rw [← hu3]; exact ((HXqbu2.out.far (p := ⟨qa, 0, none⟩) (Ne.symm HNE.out) _).far (p := ⟨qa, 1, none⟩) (Ne.symm HNE.out) _).far (p := ⟨qa, 2, none⟩) (Ne.symm HNE.out) _)
                  (try rw [hu3])
                  refine hK.out _ _ (fun _ => HSS.out _ HBu3.out) ?_
                  clear hu3 x0 x1 x2 f0 f1 f2 hlt
                  clear hK K
                  try simp only [Act.put, List.setIfInBounds_toArray, List.set_cons_zero, List.set_cons_succ, Nat.zero_add]
                  refine wpAnyY_one0 (i := 17) rfl (by kernel_rfl) (by kernel_rfl) (fun K hK => ?_)
                  have x0 := HXqbu3.out.cell 0; have x1 := HXqbu3.out.cell 1; have x2 := HXqbu3.out.cell 2; have f0 := HXqbu3.out.frozen 0; have f1 := HXqbu3.out.frozen 1; have f2 := HXqbu3.out.frozen 2; have hlt := HXqbu3.out.lt
                  simp at x0 x1 x2
                  go_simp
                  obtain ⟨u4, hu4⟩ : ∃ z : World, ((u3.setCell ⟨qb, 0, none⟩ (.int .i64 vb)).setCell ⟨qb, 1, none⟩ (.string nb)).setCell ⟨qb, 2, none⟩ (.slice Sb mb kb) = z := ⟨_, rfl⟩
                  have HBu4 : Hid (Below wr.heap.size wr u4) := Lib.hid (by rw [← hu4]; exact ((HBu3.out.setCell (p := ⟨qb, 0, none⟩) HLqb.out _).setCell (p := ⟨qb, 1, none⟩) HLqb.out _).setCell (p := ⟨qb, 2, none⟩) HLqb.out _)
                  have HXqbu4 : Hid (Blk u4 qb 66 #[.int .i64 vb, .string nb, .slice Sb mb kb]) := Lib.hid (by rw [← hu4]; simpa using ((HXqbu3.out.set_ 0 (.int .i64 vb)).set_ 1 (.string nb)).set_ 2 (.slice Sb mb kb))
                  have HXqau4 : Hid (Blk u4 qa 66 #[.int .i64 va, .string na, .slice Sa ma ka]) := Lib.hid (by rw [← hu4]; exact ((HXqau3.out.far (p := ⟨qb, 0, none⟩) HNE.out _).far (p := ⟨qb, 1, none⟩) HNE.out _).far (p := ⟨qb, 2, none⟩) HNE.out _)
                  (try rw [hu4])
                  refine hK.out _ _ ?_
                  clear hu4 x0 x1 x2 f0 f1 f2 hlt
                  clear hK K
                  try simp only [Act.put, List.setIfInBounds_toArray, List.set_cons_zero, List.set_cons_succ, Nat.zero_add]
                  refine wpAnyY_done (by kernel_rfl) ?_ _
                  go_wp2_with fail
                  go_meet
                  case rel => exact ⟨qa, qb, rfl, rfl, HBu4.out, HXqau4.out, HXqbu4.out, HNE.out, HLqa.out, HLqb.out⟩
                · go_simp
                  obtain ⟨qb, hqb⟩ : ∃ z, u0.heap.size = z := ⟨_, rfl⟩
                  obtain ⟨u1, hu1⟩ : ∃ z : World, u0.alloc (.cells #[.int .i64 0, .string ⟨#[]⟩, .slice none 0 0] 66) = z := ⟨_, rfl⟩
                  have HBu1 : Hid (Below wr.heap.size wr u1) := Lib.hid (by rw [← hu1]; exact HBu0.out.alloc HBu0.out.size _)
                  have HXqbu1 : Hid (Blk u1 qb 66 #[.int .i64 0, .string ⟨#[]⟩, .slice none 0 0]) := Lib.hid (by rw [← hu1]; exact Blk.new' hqb.symm)
                  have HLqb : Hid (wr.heap.size ≤ qb) := Lib.hid (by rw [← hqb]; exact HBu0.out.size)
                  (try rw [hqb])
                  (try rw [hu1])
                  refine hK.out _ _ (fun _ => HSS.out _ HBu1.out) ?_
                  clear hqb hu1
                  clear hK K
                  try simp only [Act.put, List.setIfInBounds_toArray, List.set_cons_zero, List.set_cons_succ, Nat.zero_add]
                  refine wpAnyY_one (i := 14) rfl (by kernel_rfl) (fun K hK => ?_)
                  go_simp
                  obtain ⟨qa, hqa⟩ : ∃ z, u1.heap.size = z := ⟨_, rfl⟩
                  obtain ⟨u2, hu2⟩ : ∃ z : World, u1.alloc (.cells #[.int .i64 0, .string ⟨#[]⟩, .slice none 0 0] 66) = z := ⟨_, rfl⟩
                  have HBu2 : Hid (Below wr.heap.size wr u2) := Lib.hid (by rw [← hu2]; exact HBu1.out.alloc HBu1.out.size _)
                  have HXqau2 : Hid (Blk u2 qa 66 #[.int .i64 0, .string ⟨#[]⟩, .slice none 0 0]) := Lib.hid (by rw [← hu2]; exact Blk.new' hqa.symm)
                  have HLqa : Hid (wr.heap.size ≤ qa) := Lib.hid (by rw [← hqa]; exact HBu1.out.size)
                  have HXqbu2 : Hid (Blk u2 qb 66 #[.int .i64 0, .string ⟨#[]⟩, .slice none 0 0]) := Lib.hid (by rw [← hu2]; exact HXqbu1.out.alloc _)
                  have HNE : Hid (qb ≠ qa) := Lib.hid (by rw [← hqa]; exact Nat.ne_of_lt HXqbu1.out.lt)
                  (try rw [hqa])
                  (try rw [hu2])
                  refine hK.out _ _ (fun _ => HSS.out _ HBu2.out) ?_
                  clear hqa hu2
                  clear hK K
                  try simp only [Act.put, List.setIfInBounds_toArray, List.set_cons_zero, List.set_cons_succ, Nat.zero_add]
                  refine wpAnyY_one (i := 16) rfl (by kernel_rfl) (fun K hK => ?_)
                  have x0 := HXqau2.out.cell 0; have x1 := HXqau2.out.cell 1; have x2 := HXqau2.out.cell 2; have f0 := HXqau2.out.frozen 0; have f1 := HXqau2.out.frozen 1; have f2 := HXqau2.out.frozen 2; have hlt := HXqau2.out.lt
                  simp at x0 x1 x2
                  go_simp
                  obtain ⟨u3, hu3⟩ : ∃ z : World, ((u2.setCell ⟨qa, 0, none⟩ (.int .i64 va)).setCell ⟨qa, 1, none⟩ (.string na)).setCell ⟨qa, 2, none⟩ (.slice Sa ma ka) = z := ⟨_, rfl⟩
                  have HBu3 : Hid (Below wr.heap.size wr u3) := Lib.hid (by rw [← hu3]; exact ((HBu2.out.setCell (p := ⟨qa, 0, none⟩) HLqa.out _).setCell (p := ⟨qa, 1, none⟩) HLqa.out _).setCell (p := ⟨qa, 2, none⟩) HLqa.out _)
                  have HXqau3 : Hid (Blk u3 qa 66 #[.int .i64 va, .string na, .slice Sa ma ka]) := Lib.hid (by rw [← hu3]; simpa using ((HXqau2.out.set_ 0 (.int .i64 va)).set_ 1 (.string na)).set_ 2 (.slice Sa ma ka))
                  have HXqbu3 : Hid (Blk u3 qb 66 #[.int .i64 0, .string ⟨#[]⟩, .slice none 0 0]) := Lib.hid (by rw [← hu3]; exact ((HXqbu2.out.far (p := ⟨qa, 0, none⟩) HNE.out _).far (p := ⟨qa, 1, none⟩) HNE.out _).far (p := ⟨qa, 2, none⟩) HNE.out _)
                  (try rw [hu3])
                  refine hK.out _ _ (fun _ => HSS.out _ HBu3.out) ?_
                  clear hu3 x0 x1 x2 f0 f1 f2 hlt
                  clear hK K
                  try simp only [Act.put, List.setIfInBounds_toArray, List.set_cons_zero, List.set_cons_succ, Nat.zero_add]
                  refine wpAnyY_one0 (i := 17) rfl (by kernel_rfl) (by kernel_rfl) (fun K hK => ?_)
                  have x0 := HXqbu3.out.cell 0; have x1 := HXqbu3.out.cell 1; have x2 := HXqbu3.out.cell 2; have f0 := HXqbu3.out.frozen 0; have f1 := HXqbu3.out.frozen 1; have f2 := HXqbu3.out.frozen 2; have hlt := HXqbu3.out.lt
                  simp at x0 x1 x2
                  go_simp
                  obtain ⟨u4, hu4⟩ : ∃ z : World, ((u3.setCell ⟨qb, 0, none⟩ (.int .i64 vb)).setCell ⟨qb, 1, none⟩ (.string nb)).setCell ⟨qb, 2, none⟩ (.slice Sb mb kb) = z := ⟨_, rfl⟩
                  have HBu4 : Hid (Below wr.heap.size wr u4) := Lib.hid (by rw [← hu4]; exact ((HBu3.out.setCell (p := ⟨qb, 0, none⟩) HLqb.out _).setCell (p := ⟨qb, 1, none⟩) HLqb.out _).setCell (p := ⟨qb, 2, none⟩) HLqb.out _)
                  have HXqbu4 : Hid (Blk u4 qb 66 #[.int .i64 vb, .string nb, .slice Sb mb kb]) := Lib.hid (by rw [← hu4]; simpa using ((HXqbu3.out.set_ 0 (.int .i64 vb)).set_ 1 (.string nb)).set_ 2 (.slice Sb mb kb))
                  have HXqau4 : Hid (Blk u4 qa 66 #[.int .i64 va, .string na, .slice Sa ma ka]) := Lib.hid (by rw [← hu4]; exact ((HXqau3.out.far (p := ⟨qb, 0, none⟩) (Ne.symm HNE.out) _).far (p := ⟨qb, 1, none⟩) (Ne.symm HNE.out) _).far (p := ⟨qb, 2, none⟩) (Ne.symm HNE.out) _)
                  (try rw [hu4])
                  refine hK.out _ _ ?_
                  clear hu4 x0 x1 x2 f0 f1 f2 hlt
                  clear hK K
                  try simp only [Act.put, List.setIfInBounds_toArray, List.set_cons_zero, List.set_cons_succ, Nat.zero_add]
                  refine wpAnyY_done (by kernel_rfl) ?_ _
                  go_wp2_with fail
                  go_meet
                  case rel => exact ⟨qa, qb, rfl, rfl, HBu4.out, HXqau4.out, HXqbu4.out, Ne.symm HNE.out, HLqa.out, HLqb.out⟩
              case rest =>
                obtain ⟨qa, qb, rfl, rfl, hb, hxa, hxb, hne, hla, hlb⟩ := hcut
                have HXA := Lib.hid hxa; have HXB := Lib.hid hxb
                have HMD : Hid (RM wc B p (.slice (some ⟨g, 0, none⟩) n cn) (.slice (some ⟨gc, 0, none⟩) n cc) ns cl) := Lib.hid (HMC.out.below hb)
                have HGD : Hid (w.grownBy wc (some gc)) := Lib.hid (HGR.out.trans (below_grown hb _))
                clear hb hxa hxb hne hla hlb HMC HGR HSS
                have a0 := HXA.out.cell 0; have a2 := HXA.out.cell 2; have b0 := HXB.out.cell 0; have b2 := HXB.out.cell 2
                simp at a0 a2 b0 b2
                obtain ⟨c1, hc1⟩ : ∃ c : Bool, c = decide (0 < va ∧ va = vb) := ⟨_, rfl⟩
                have HC1 := Lib.hid hc1
                clear hc1
                go_upto_region 10 with fail
                go_cut [48] (fun s48 wx => s48 = .bool c1 ∧ wx = wc)
                case first =>
                  by_cases h0 : 0 < va
                  · have h0' : (0 : Int) < va := by omega
                    by_cases h1 : va = vb
                    · subst h1
                      have HE : Hid (c1 = true) := Lib.hid (by rw [HC1.out]; exact decide_eq_true ⟨h0, rfl⟩)
                      go_wp2_with fail
                      go_meet
                      case rel => exact ⟨by rw [HE.out], rfl⟩
                    · have h1' : ¬ (va : Int) = vb := by omega
                      have h1b : ((va : Int) == (vb : Int)) = false := by simp; omega
                      have HE : Hid (c1 = false) := Lib.hid (by rw [HC1.out]; exact decide_eq_false fun h => h1 h.2)
                      clear h1
                      go_wp2_with fail
                      go_meet
                      case rel => exact ⟨by first | (rw [HE.out]; done) | rw [HE.out, h1b], rfl⟩
                  · have h0' : ¬ (0 : Int) < va := by omega
                    have HE : Hid (c1 = false) := Lib.hid (by rw [HC1.out]; exact decide_eq_false fun h => h0 h.1)
                    clear h0
                    go_wp2_with fail
                    go_meet
                    case rel => exact ⟨by rw [HE.out], rfl⟩
                case rest =>
                obtain ⟨rfl, rfl⟩ := hcut
                go_upto_if 48 with fail
                go_cut [2] (fun s2 wx => ∃ (cl' : List Nat) (more' : Bool), s2 = .bool more' ∧ CS W E ns cl1 i k cl' more' ∧ (more' = false → ∀ x, W.nd i = .hole x → W.nd k = .hole x → rOf cl' i = rOf cl' k) ∧ RM wx B p (.slice (some ⟨g, 0, none⟩) n cn) (.slice (some ⟨gc, 0, none⟩) n cc) ns cl' ∧ w.grownBy wx (some gc) ∧ Blk wx qa 66 #[.int .i64 va, .string na, .slice Sa ma ka] ∧ Blk wx qb 66 #[.int .i64 vb, .string nb, .slice Sb mb kb])
                case first =>
                  cases c1
                  · have HHO : Hid (∀ x, W.nd i = .hole x → W.nd k = .hole x → rOf cl i = rOf cl k) := Lib.hid (fun x h1 h2 => by
                      obtain ⟨e1, e2⟩ := HCS.out.rw.of_hole HIN.out h1
                      obtain ⟨e3, _⟩ := HCS.out.rw.of_hole HKN.out h2
                      rw [HV.out.1] at e1
                      rw [HV.out.2] at e3
                      exact absurd (HC1.out.symm) (by simp; omega))
                    go_wp2_with fail
                    go_meet
                    case rel => exact ⟨cl, more, rfl, HCS.out, fun _ => HHO.out, HMD.out, HGD.out, HXA.out, HXB.out⟩
                  · have hcc : 0 < va ∧ va = vb := of_decide_eq_true HC1.out.symm
                    have HHV : Hid (∀ θ, Sat θ E → W.val θ i = W.val θ k) := Lib.hid (HCS.out.rw.holev (x := va) HIN.out HKN.out (by rw [HCS.out.rw.hole_ HIN.out (by rw [HV.out.1]; omega), HV.out.1]; simp) (by rw [HCS.out.rw.hole_ HKN.out (by rw [HV.out.2]; omega), HV.out.2, ← hcc.2]; simp))
                    clear hcc a0 a2 b0 b2
                    go_wp2_with fail
                    refine (rjoin_any wc B p _ _ ns cl HMD.out (by rw [HCS.out.rw.cn, HN.out]; exact hl) i k (by rw [HCS.out.rw.cn]; exact HIN.out) (by rw [HCS.out.rw.cn]; exact HKN.out)).mono ?_
                    rintro _ w5 ⟨hq, hj⟩
                    unfold IsB at hq
                    subst hq
                    have HM5 := Lib.hid hj.mem; have HG5 : Hid (w.grownBy w5 (some gc)) := Lib.hid (HGD.out.trans hj.grown)
                    have HXA5 : Hid (Blk w5 qa 66 #[.int .i64 va, .string na, .slice Sa ma ka]) := Lib.hid (HXA.out.grown hj.grown (fun e => own_ne_blkX HMD.out.cls HXA.out (by decide) e.symm))
                    have HXB5 : Hid (Blk w5 qb 66 #[.int .i64 vb, .string nb, .slice Sb mb kb]) := Lib.hid (HXB.out.grown hj.grown (fun e => own_ne_blkX HMD.out.cls HXB.out (by decide) e.symm))
                    have HCS5 := Lib.hid (HCS.out.join HIN.out HKN.out HHV.out)
                    have HHO : Hid ((more || !decide (rOf cl i = rOf cl k)) = false → ∀ x, W.nd i = .hole x → W.nd k = .hole x → rOf (joinC cl (rOf cl i) (rOf cl k)) i = rOf (joinC cl (rOf cl i) (rOf cl k)) k) := Lib.hid (fun h _ _ _ => by
                      obtain ⟨_, h2, h3⟩ := join_no h
                      rw [h3]; exact h2)
                    obtain ⟨fr, hfr⟩ : ∃ b, (!decide (rOf cl i = rOf cl k)) = b := ⟨_, rfl⟩
                    rw [hfr] at HCS5 HHO
                    (try rw [hfr])
                    clear hfr hj
                    cases more
                    · go_wp2_with fail
                      go_meet
                      case rel => exact ⟨_, fr, rfl, by simpa using HCS5.out, by simpa using HHO.out, HM5.out, HG5.out, HXA5.out, HXB5.out⟩
                    · go_wp2_with fail
                      go_meet
                      case rel => exact ⟨_, true, rfl, by simpa using HCS5.out, (fun h => by cases h), HM5.out, HG5.out, HXA5.out, HXB5.out⟩
                case rest =>
                clear HCS HMD HGD HXA HXB a0 a2 b0 b2 HC1
                clear cl more
                obtain ⟨cl, more, rfl, hcs, hho, hm, hg, hxa, hxb⟩ := hcut
                have HCS := Lib.hid hcs; have HHO := Lib.hid hho; have HMD := Lib.hid hm; have HGD := Lib.hid hg; have HXA := Lib.hid hxa; have HXB := Lib.hid hxb
                have a0 := hxa.cell 0; have a2 := hxa.cell 2; have b0 := hxb.cell 0; have b2 := hxb.cell 2
                simp at a0 a2 b0 b2
                have p1 := hm.blk.cell 1
                simp at p1
                have HIC : Hid (i < cl.length) := Lib.hid (by rw [hcs.rw.cn]; exact HIN.out)
                have HKC : Hid (k < cl.length) := Lib.hid (by rw [hcs.rw.cn]; exact HKN.out)
                obtain ⟨e0, _, _⟩ := hm.clsG HIC.out
                obtain ⟨e1, _, _⟩ := hm.clsG HKC.out
                obtain ⟨x, hx⟩ : ∃ x, cl[i]'HIC.out = x := ⟨_, rfl⟩
                obtain ⟨y, hy⟩ : ∃ y, cl[k]'HKC.out = y := ⟨_, rfl⟩
                have HXY : Hid (rOf cl i = x ∧ rOf cl k = y) := Lib.hid ⟨by rw [rOf_at HIC.out, hx], by rw [rOf_at HKC.out, hy]⟩
                rw [hx] at e0
                rw [hy] at e1
                clear hcs hho hm hg hxa hxb hx hy
                obtain ⟨c2, hc2⟩ : ∃ c : Bool, c = decide (x ≠ y ∨ 0 < va ∨ 0 < vb ∨ ma ≠ mb) := ⟨_, rfl⟩
                have HC2 := Lib.hid hc2
                clear hc2
                obtain ⟨wq, hwq⟩ : ∃ z, z = wc := ⟨_, rfl⟩
                subst hwq
                go_upto_region 13 with fail
                go_cut [90] (fun s90 wx => s90 = .bool c2 ∧ ∃ nq : Nat, wx = wq.drewN nq)
                case first =>
                  by_cases hxy : x = y
                  case neg =>
                    have g1 : ((x : Int) != (y : Int)) = true := by simp; omega
                    have HE : Hid (c2 = true) := Lib.hid (by rw [HC2.out]; simp; omega)
                    clear HCS HHO HMD HGD HXA HXB HXY HC2
                    go_quiet (fail)
                    go_wp2_with fail
                    go_meet
                    case rel => exact ⟨by rw [HE.out], _, rfl⟩
                  case pos =>
                  have g1 : ((x : Int) != (y : Int)) = false := by simp; omega
                  by_cases hva : 0 < va
                  case pos =>
                    have g2 : decide ((0 : Int) < va) = true := decide_eq_true (by omega)
                    have HE : Hid (c2 = true) := Lib.hid (by rw [HC2.out]; simp; omega)
                    clear HCS HHO HMD HGD HXA HXB HXY HC2
                    go_quiet (fail)
                    go_wp2_with fail
                    go_meet
                    case rel => exact ⟨by rw [HE.out], _, rfl⟩
                  case neg =>
                  have g2 : decide ((0 : Int) < va) = false := decide_eq_false (by omega)
                  by_cases hvb : 0 < vb
                  case pos =>
                    have g3 : decide ((0 : Int) < vb) = true := decide_eq_true (by omega)
                    have HE : Hid (c2 = true) := Lib.hid (by rw [HC2.out]; simp; omega)
                    clear HCS HHO HMD HGD HXA HXB HXY HC2
                    go_quiet (fail)
                    go_wp2_with fail
                    go_meet
                    case rel => exact ⟨by rw [HE.out], _, rfl⟩
                  case neg =>
                  have g3 : decide ((0 : Int) < vb) = false := decide_eq_false (by omega)
                  by_cases hmm : ma = mb
                  case neg =>
                    have g4 : ((ma : Int) != (mb : Int)) = true := by simp; omega
                    have HE : Hid (c2 = true) := Lib.hid (by rw [HC2.out]; simp; omega)
                    clear HCS HHO HMD HGD HXA HXB HXY HC2
                    go_quiet (fail)
                    go_wp2_with fail
                    go_meet
                    case rel => exact ⟨by rw [HE.out], _, rfl⟩
                  case pos =>
                  have g4 : ((ma : Int) != (mb : Int)) = false := by simp; omega
                  have HE : Hid (c2 = false) := Lib.hid (by rw [HC2.out]; simp; omega)
                  clear HCS HHO HMD HGD HXA HXB HXY HC2
                  go_quiet (fail)
                  go_wp2_with fail
                  go_meet
                  case rel => exact ⟨by rw [HE.out], _, rfl⟩
                case rest =>
                obtain ⟨rfl, nq, hwd⟩ := hcut
                have HXY2 := Lib.hid HXY.out
                have HM6 := Lib.hid (HMD.out.drewN nq)
                have HG6 : Hid (w.grownBy (wq.drewN nq) (some gc)) := Lib.hid (HGD.out.trans (grown_drewN _ _ _))
                have HXA6 := Lib.hid (HXA.out.drewN nq); have HXB6 := Lib.hid (HXB.out.drewN nq)
                obtain ⟨wd, hwdd⟩ : ∃ z : World, wq.drewN nq = z := ⟨_, rfl⟩
                rw [hwdd] at hwd HM6 HG6 HXA6 HXB6
                subst hwd
                clear hwdd HMD HGD HXA HXB a0 a2 b0 b2 e0 e1 p1 HXY
                go_upto_if 90 with fail
                cases c2
                case true =>
                  have HCP : Hid (more = false → CP W (rOf cl) i k) := Lib.hid (fun hm => CP.of HCS.out.rw HIN.out HKN.out (HHO.out hm) (fun h1 h2 h3 h4 => by
                    exfalso
                    have h5 := of_decide_eq_true HC2.out.symm
                    rw [HXY2.out.1, HXY2.out.2] at h1
                    rw [HV.out.1] at h2
                    rw [HV.out.2] at h3
                    rw [HML.out.1, HML.out.2] at h4
                    omega))
                  have HCS7 := Lib.hid (HCS.out.pass HCP.out)
                  go_wp2
                  go_roundg (i - (k + 1))
                  case measure => omega
                  case rel => exact ⟨k + 1, cl, more, rfl, by go_num, rfl, by omega, HCS7.out, HM6.out, HG6.out⟩
                case false =>
                have hcc : x = y ∧ va = 0 ∧ vb = 0 ∧ ma = mb := by
                  have h5 := of_decide_eq_false HC2.out.symm
                  omega
                obtain ⟨rfl, rfl, rfl, rfl⟩ := hcc
                have HR6 : Hid (rOf cl i = rOf cl k) := Lib.hid (by rw [HXY2.out.1, HXY2.out.2])
                have HAT : Hid (ArgTo W (rOf cl) (ns[i]'HIN.out).args (ns[k]'HKN.out).args 0) := Lib.hid (fun m h => absurd h (Nat.not_lt_zero _))
                clear HXY2 HC2
                go_upto_region 15 with fail
                go_loopg [2, 8] ma (fun gh s2 s8 wx => ∃ (j : Nat) (cl : List Nat) (more : Bool), s2 = .bool more ∧ s8 = .int .i64 j ∧ gh = ma - j ∧ j ≤ ma ∧ CS W E ns cl1 i k cl more ∧ (more = false → (∀ x, W.nd i = .hole x → W.nd k = .hole x → rOf cl i = rOf cl k) ∧ ArgTo W (rOf cl) (ns[i]'HIN.out).args (ns[k]'HKN.out).args j) ∧ rOf cl i = rOf cl k ∧ RM wx B p (.slice (some ⟨g, 0, none⟩) n cn) (.slice (some ⟨gc, 0, none⟩) n cc) ns cl ∧ w.grownBy wx (some gc) ∧ Blk wx qa 66 #[.int .i64 0, .string na, .slice Sa ma ka] ∧ Blk wx qb 66 #[.int .i64 0, .string nb, .slice Sb ma kb])
                case atStart => exact ⟨0, cl, more, rfl, rfl, rfl, Nat.zero_le _, HCS.out, fun hm => ⟨HHO.out hm, HAT.out⟩, HR6.out, HM6.out, HG6.out, HXA6.out, HXB6.out⟩
                case round =>
                  clear HCS HHO HM6 HG6 HXA6 HXB6 HR6 HAT HIC HKC
                  clear cl more
                  obtain ⟨j, cl, more, rfl, rfl, rfl, hj, hcs, hho, hre, hm, hg, hxa, hxb⟩ := hrel
                  have HCS := Lib.hid hcs; have HHO := Lib.hid hho; have HRE := Lib.hid hre; have HMD := Lib.hid hm; have HGD := Lib.hid hg; have HXA := Lib.hid hxa; have HXB := Lib.hid hxb
                  have a2 := hxa.cell 2; have b2 := hxb.cell 2
                  simp at a2 b2
                  have j0 : (0 : Int) ≤ j := by omega
                  clear hcs hho hre hm hg hxa hxb
                  by_cases hjm : j < ma
                  · have hjm' : (j : Int) < ma := by omega
                    have HJA : Hid (j < (ns[i]'HIN.out).args.length) := Lib.hid (by rw [HML.out.1]; exact hjm)
                    have HJB : Hid (j < (ns[k]'HKN.out).args.length) := Lib.hid (by rw [HML.out.2]; exact hjm)
                    obtain ⟨za, hza, hzan⟩ := HCS.out.rw.argIn HIN.out HJA.out
                    obtain ⟨zb, hzb, hzbn⟩ := HCS.out.rw.argIn HKN.out HJB.out
                    obtain ⟨ga, hSa, hgal, _⟩ := HAA.out _ HGD.out j HJA.out
                    obtain ⟨gb, hSb, hgbl, _⟩ := HBB.out _ HGD.out j HJB.out
                    have HARG : Hid (∀ w', w.grownBy w' (some gc) → Blk w' qa 66 #[.int .i64 0, .string na, .slice Sa ma ka] → Blk w' qb 66 #[.int .i64 0, .string nb, .slice Sb ma kb] → (fun w' : World => w'.cell? ⟨qa, 2, none⟩ = some (.slice (some ⟨ga, 0, none⟩) ma ka) ∧ w'.cell? ⟨qb, 2, none⟩ = some (.slice (some ⟨gb, 0, none⟩) ma kb) ∧ w'.cell? ⟨ga, j, none⟩ = some (.int .i64 za) ∧ w'.cell? ⟨gb, j, none⟩ = some (.int .i64 zb)) w') := Lib.hid (fun w' hg h1 h2 => by
                      obtain ⟨ga', e1, _, d1⟩ := HAA.out w' hg j HJA.out
                      obtain ⟨gb', e2, _, d2⟩ := HBB.out w' hg j HJB.out
                      rw [hSa] at e1
                      rw [hSb] at e2
                      injection e1 with e1
                      injection e1 with e1
                      injection e2 with e2
                      injection e2 with e2
                      subst e1; subst e2
                      rw [hza] at d1
                      rw [hzb] at d2
                      have a2 := h1.cell 2; have b2 := h2.cell 2
                      simp at a2 b2
                      rw [hSa] at a2
                      rw [hSb] at b2
                      exact ⟨a2, b2, d1, d2⟩)
                    have HVV := Lib.hid (HCS.out.rw.argVal HIN.out HKN.out HRE.out HV.out.1 HV.out.2 HJA.out HJB.out hza hzb)
                    have HZN : Hid (za < ns.length ∧ zb < ns.length) := Lib.hid ⟨hzan, hzbn⟩
                    have HZE : Hid ((ns[i]'HIN.out).args[j]'HJA.out = (za : Int) ∧ (ns[k]'HKN.out).args[j]'HJB.out = (zb : Int)) := Lib.hid ⟨hza, hzb⟩
                    have HSE : Hid (Sa = some ⟨ga, 0, none⟩ ∧ Sb = some ⟨gb, 0, none⟩) := Lib.hid ⟨hSa, hSb⟩
                    have hja : (j : Int) < ma := hjm'
                    clear hza hzb hzan hzbn hgal hgbl
                    rw [hSa] at a2
                    rw [hSb] at b2
                    clear hSa hSb
                    go_upto_region 17 with fail
                    refine wp_region_held_drew (S := (fun w' : World => w'.cell? ⟨qa, 2, none⟩ = some (.slice (some ⟨ga, 0, none⟩) ma ka) ∧ w'.cell? ⟨qb, 2, none⟩ = some (.slice (some ⟨gb, 0, none⟩) ma kb) ∧ w'.cell? ⟨ga, j, none⟩ = some (.int .i64 za) ∧ w'.cell? ⟨gb, j, none⟩ = some (.int .i64 zb))) (by kernel_rfl) (HARG.out _ (HGD.out.trans (grown_drewN wr 1 _)) (HXA.out.drewN 1) (HXB.out.drewN 1)) (fun hHeld => ?_)
                    refine wpAnyH_take (i := 0) (v := ?_) rfl (by kernel_rfl) (by kernel_rfl) (by kernel_rfl) (fun _ _ _ h => h) ?_ (by assumption) ?_
                    rotate_left 1
                    · (refine Or.inl ⟨by rfl, fun w' hSw => ?_⟩; obtain ⟨s0, s1, s2, s3⟩ := hSw; go_simp); try with_reducible rfl
                    try simp only [Act.put, List.setIfInBounds_toArray, List.set_cons_zero, List.set_cons_succ, Nat.zero_add]
                    refine wpAnyH_take (i := 1) (v := ?_) rfl (by kernel_rfl) (by kernel_rfl) (by kernel_rfl) (fun _ _ _ h => h) ?_ (by assumption) ?_
                    rotate_left 1
                    · (refine Or.inl ⟨by rfl, fun w' hSw => ?_⟩; obtain ⟨s0, s1, s2, s3⟩ := hSw; go_simp); try with_reducible rfl
                    try simp only [Act.put, List.setIfInBounds_toArray, List.set_cons_zero, List.set_cons_succ, Nat.zero_add]
                    refine wpAnyH_take (i := 2) (v := ?_) rfl (by kernel_rfl) (by kernel_rfl) (by kernel_rfl) (fun _ _ _ h => h) ?_ (by assumption) ?_
                    rotate_left 1
                    · (refine Or.inl ⟨by rfl, fun w' hSw => ?_⟩; obtain ⟨s0, s1, s2, s3⟩ := hSw; go_simp); try with_reducible rfl
                    try simp only [Act.put, List.setIfInBounds_toArray, List.set_cons_zero, List.set_cons_succ, Nat.zero_add]
                    refine wpAnyH_take (i := 3) (v := ?_) rfl (by kernel_rfl) (by kernel_rfl) (by kernel_rfl) (fun _ _ _ h => h) ?_ (by assumption) ?_
                    rotate_left 1
                    · (refine Or.inl ⟨by rfl, fun w' hSw => ?_⟩; obtain ⟨s0, s1, s2, s3⟩ := hSw; go_simp); try with_reducible rfl
                    try simp only [Act.put, List.setIfInBounds_toArray, List.set_cons_zero, List.set_cons_succ, Nat.zero_add]
                    refine wpAnyH_take (i := 4) (v := ?_) rfl (by kernel_rfl) (by kernel_rfl) (by kernel_rfl) (fun _ _ _ h => h) ?_ (by assumption) ?_
                    rotate_left 1
                    · (refine Or.inl ⟨by rfl, fun w' hSw => ?_⟩; obtain ⟨s0, s1, s2, s3⟩ := hSw; go_simp); try with_reducible rfl
                    try simp only [Act.put, List.setIfInBounds_toArray, List.set_cons_zero, List.set_cons_succ, Nat.zero_add]
                    refine wpAnyH_take (i := 5) (v := ?_) rfl (by kernel_rfl) (by kernel_rfl) (by kernel_rfl) (fun _ _ _ h => h) ?_ (by assumption) ?_
                    rotate_left 1
                    · (refine Or.inl ⟨by rfl, fun w' hSw => ?_⟩; obtain ⟨s0, s1, s2, s3⟩ := hSw; go_simp); try with_reducible rfl
                    try simp only [Act.put, List.setIfInBounds_toArray, List.set_cons_zero, List.set_cons_succ, Nat.zero_add]
                    refine wpAnyH_take (i := 6) (v := ?_) rfl (by kernel_rfl) (by kernel_rfl) (by kernel_rfl) (fun _ _ _ h => h) ?_ (by assumption) ?_
                    rotate_left 1
                    · (refine Or.inl ⟨by rfl, fun w' hSw => ?_⟩; obtain ⟨s0, s1, s2, s3⟩ := hSw; go_simp); try with_reducible rfl
                    try simp only [Act.put, List.setIfInBounds_toArray, List.set_cons_zero, List.set_cons_succ, Nat.zero_add]
                    refine wpAnyH_take (i := 7) (v := ?_) rfl (by kernel_rfl) (by kernel_rfl) (by kernel_rfl) (fun _ _ _ h => h) ?_ (by assumption) ?_
                    rotate_left 1
                    · (refine Or.inl ⟨by rfl, fun w' hSw => ?_⟩; obtain ⟨s0, s1, s2, s3⟩ := hSw; go_simp); try with_reducible rfl
                    try simp only [Act.put, List.setIfInBounds_toArray, List.set_cons_zero, List.set_cons_succ, Nat.zero_add]
                    refine wpAnyH_take (i := 8) (v := ?_) rfl (by kernel_rfl) (by kernel_rfl) (by kernel_rfl) (fun _ _ _ h => h) ?_ (by assumption) ?_
                    rotate_left 1
                    · (refine Or.inl ⟨by rfl, fun w' hSw => ?_⟩; obtain ⟨s0, s1, s2, s3⟩ := hSw; go_simp); try with_reducible rfl
                    try simp only [Act.put, List.setIfInBounds_toArray, List.set_cons_zero, List.set_cons_succ, Nat.zero_add]
                    refine wpAnyH_take (i := 9) (v := ?_) rfl (by kernel_rfl) (by kernel_rfl) (by kernel_rfl) (fun _ _ _ h => h) ?_ (by assumption) ?_
                    rotate_left 1
                    · (refine Or.inl ⟨by rfl, fun w' hSw => ?_⟩; obtain ⟨s0, s1, s2, s3⟩ := hSw; go_simp); try with_reducible rfl
                    try simp only [Act.put, List.setIfInBounds_toArray, List.set_cons_zero, List.set_cons_succ, Nat.zero_add]
                    refine wpAnyH_take (i := 10) (v := ?_) rfl (by kernel_rfl) (by kernel_rfl) (by kernel_rfl) (fun _ _ _ h => h) ?_ (by assumption) ?_
                    rotate_left 1
                    · (refine Or.inl ⟨by rfl, fun w' hSw => ?_⟩; obtain ⟨s0, s1, s2, s3⟩ := hSw; go_simp); try with_reducible rfl
                    try simp only [Act.put, List.setIfInBounds_toArray, List.set_cons_zero, List.set_cons_succ, Nat.zero_add]
                    refine wpAnyH_ready (rs := [11]) (by kernel_rfl) (by simp) (AllReadyH.cons rfl (fun K hK => ?_) AllReadyH.nil)
                    go_simp
                    refine (rjoin_any wr.drew B p _ _ ns cl HMD.out.drew (by rw [HCS.out.rw.cn, HN.out]; exact hl) za zb (by rw [HCS.out.rw.cn]; exact HZN.out.1) (by rw [HCS.out.rw.cn]; exact HZN.out.2)).mono ?_
                    rintro _ w5 ⟨hq, hj5⟩
                    unfold IsB at hq
                    subst hq
                    have HM5 := Lib.hid hj5.mem; have HG5 : Hid (w.grownBy w5 (some gc)) := Lib.hid ((HGD.out.trans (grown_drewN wr 1 _)).trans hj5.grown)
                    have HXA5 : Hid (Blk w5 qa 66 #[.int .i64 0, .string na, .slice Sa ma ka]) := Lib.hid ((HXA.out.drewN 1).grown hj5.grown (fun e => own_ne_blkX HMD.out.cls HXA.out (by decide) e.symm))
                    have HXB5 : Hid (Blk w5 qb 66 #[.int .i64 0, .string nb, .slice Sb ma kb]) := Lib.hid ((HXB.out.drewN 1).grown hj5.grown (fun e => own_ne_blkX HMD.out.cls HXB.out (by decide) e.symm))
                    obtain ⟨fr, hfr⟩ : ∃ b, (!decide (rOf cl za = rOf cl zb)) = b := ⟨_, rfl⟩
                    have HFR := Lib.hid hfr
                    (try rw [hfr])
                    clear hfr hj5
                    refine hK.out _ _ (HARG.out _ HG5.out HXA5.out HXB5.out) (fun hHeld => ?_)
                    clear hK K
                    try simp only [Act.put, List.setIfInBounds_toArray, List.set_cons_zero, List.set_cons_succ, Nat.zero_add]
                    refine wpAnyH_take (i := 12) (v := ?_) rfl (by kernel_rfl) (by kernel_rfl) (by kernel_rfl) (fun _ _ _ h => h) ?_ (by assumption) ?_
                    rotate_left 1
                    · (refine Or.inl ⟨by rfl, fun w' hSw => ?_⟩; obtain ⟨s0, s1, s2, s3⟩ := hSw; go_simp); try with_reducible rfl
                    try simp only [Act.put, List.setIfInBounds_toArray, List.set_cons_zero, List.set_cons_succ, Nat.zero_add]
                    refine wpAnyH_done (by kernel_rfl) ?_ _
                    clear hHeld a2 b2
                    have HCS5 := Lib.hid (HCS.out.join HZN.out.1 HZN.out.2 HVV.out)
                    rw [HFR.out] at HCS5
                    have HHO5 : Hid ((more || fr) = false → (∀ x, W.nd i = .hole x → W.nd k = .hole x → rOf (joinC cl (rOf cl za) (rOf cl zb)) i = rOf (joinC cl (rOf cl za) (rOf cl zb)) k) ∧ ArgTo W (rOf (joinC cl (rOf cl za) (rOf cl zb))) (ns[i]'HIN.out).args (ns[k]'HKN.out).args (j + 1)) := Lib.hid (fun h => by
                      rw [← HFR.out] at h
                      obtain ⟨h1, h2, h3⟩ := join_no h
                      rw [h3]
                      obtain ⟨q1, q2⟩ := HHO.out h1
                      refine ⟨q1, fun m hm ha hb => ?_⟩
                      by_cases e : m < j
                      · exact q2 m e ha hb
                      · have : m = j := by omega
                        subst this
                        rw [HZE.out.1, HZE.out.2]
                        simpa using h2)
                    have HRE5 : Hid (rOf (joinC cl (rOf cl za) (rOf cl zb)) i = rOf (joinC cl (rOf cl za) (rOf cl zb)) k) := Lib.hid (join_mono (by rw [HCS.out.rw.cn]; exact HIN.out) (by rw [HCS.out.rw.cn]; exact HKN.out) HRE.out)
                    clear HFR HCS HHO HRE HMD HGD HXA HXB
                    obtain ⟨cl5, hcl5⟩ : ∃ q, joinC cl (rOf cl za) (rOf cl zb) = q := ⟨_, rfl⟩
                    rw [hcl5] at HCS5 HHO5 HRE5 HM5
                    clear hcl5
                    cases more
                    · rw [Bool.false_or] at HCS5 HHO5
                      go_wp2
                      go_roundg (ma - (j + 1))
                      case measure => omega
                      case rel => exact ⟨j + 1, cl5, fr, rfl, by go_num, rfl, by omega, HCS5.out, HHO5.out, HRE5.out, HM5.out, HG5.out, by rw [HSE.out.1]; rw [HSE.out.1] at HXA5; exact HXA5.out, by rw [HSE.out.2]; rw [HSE.out.2] at HXB5; exact HXB5.out⟩
                    · rw [Bool.true_or] at HCS5
                      go_wp2
                      go_roundg (ma - (j + 1))
                      case measure => omega
                      case rel => exact ⟨j + 1, cl5, true, rfl, by go_num, rfl, by omega, HCS5.out, (fun h => by cases h), HRE5.out, HM5.out, HG5.out, by rw [HSE.out.1]; rw [HSE.out.1] at HXA5; exact HXA5.out, by rw [HSE.out.2]; rw [HSE.out.2] at HXB5; exact HXB5.out⟩
                  · have hjm' : ¬ (j : Int) < ma := by omega
                    have HCP : Hid (more = false → CP W (rOf cl) i k) := Lib.hid (fun hm => CP.of HCS.out.rw HIN.out HKN.out (HHO.out hm).1 (fun _ _ _ _ => by
                      have h2 := (HHO.out hm).2
                      rw [show j = (ns[i]'HIN.out).args.length by rw [HML.out.1]; omega] at h2
                      exact h2))
                    have HCS7 := Lib.hid (HCS.out.pass HCP.out)
                    clear HCS HHO HCP
                    go_wp2
                    go_roundg (i - (k + 1))
                    case measure => omega
                    case rel => exact ⟨k + 1, cl, more, rfl, by go_num, rfl, by omega, HCS7.out, HMD.out, HGD.out⟩
            · have hki' : ¬ (k : Int) < i := by omega
              have HCS2 := Lib.hid (HCS.out.nextRow hki)
              go_wp2
              go_roundg (n - (i + 1))
              case measure => omega
              case rel => exact ⟨i + 1, cl, more, rfl, by go_num, rfl, by omega, HCS2.out, HMC.out, HGR.out⟩
        · have hin' : ¬ (i : Int) < n := by omega
          go_wp2
          have HMS : Hid ((if more then rootsN n (rOf cl) + 1 else 0) < rootsN n (rOf cl1) + 1) := Lib.hid (by
            cases more
            · simp
            · have := HCS.out.cr.yes rfl; rw [HN.out] at this; simp; omega)
          go_roundg (if more then rootsN n (rOf cl) + 1 else 0)
          case measure => exact HMS.out
          case rel => exact ⟨cl, more, rfl, rfl, HCS.out.rw, HCS.out.meets, HM.out, HG.out, fun hm i' k' h1 h2 => (HCS.out.done hm).1 i' k' h1 (by rw [HN.out] at h2; omega)⟩
end Go.Proofs.Ytgcbnndbeoekgaa
