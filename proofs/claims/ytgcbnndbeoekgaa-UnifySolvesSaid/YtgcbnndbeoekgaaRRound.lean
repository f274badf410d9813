import Derived.Test.YtgcbnndbeoekgaaRTerm
import Derived.Test.YtgcbnndbeoekgaaAlike
import Derived.Test.YtgcbnndbeoekgaaRightR
set_option linter.unusedSimpArgs false
set_option linter.unusedVariables false
/- the document's web.round: do they go round? -/
namespace Go.Proofs.Ytgcbnndbeoekgaa
open Go Go.RowKit Go.Maps

theorem bool_info15 : (Try.prog.info? 4).map (fun i => (i.zero, i.size, i.bytes)) = some (some (.bool false), 1, 1) := by kernel_rfl
/-- a row of Bools that stands in a block -/
def BRow (w : World) (g : Nat) (l : List Bool) : Prop := Blk w g 4 (l.map Value.bool).toArray
theorem BRow.cell {w : World} {g : Nat} {l : List Bool} (h : BRow w g l) {i : Nat} (hi : i < l.length) : w.cell? ⟨g, i, none⟩ = some (.bool (grB l i)) := by
  rw [Blk.cell h i, grB_at hi]; simp [hi]
theorem BRow.set_ {w : World} {g : Nat} {l : List Bool} (h : BRow w g l) (i : Nat) (b : Bool) : BRow (w.setCell ⟨g, i, none⟩ (.bool b)) g (l.set i b) := by
  have := Blk.set_ h i (.bool b)
  unfold BRow
  rw [List.map_set]
  simpa using this
theorem BRow.made (w : World) (k : Nat) : BRow (w.alloc (.cells (madeCells #[.bool false] k) 4)) w.heap.size (List.replicate k false) := by
  have e : madeCells #[.bool false] k = ((List.replicate k false).map Value.bool).toArray := by
    unfold madeCells
    apply Array.ext
    · simp
    · intro i h1 h2
      simp [Nat.mod_one]
  unfold BRow
  rw [← e]; exact Blk.new _ _ _
def RoundIs (W : WebT) (ns : List TN) (cl : List Nat) (e : Ending) : Prop :=
  (e = .returned (.bool true) ∧ Cyc W (rOf cl) (tmR ns cl)) ∨ (e = .returned (.bool false) ∧ ∀ k, k < W.n → ∃ T, Lay W (rOf cl) (tmR ns cl) (loR ns cl) (rOf cl k) T)
/-- so many of a term's arguments have been looked at -/
def AllTo (gs : List Bool) (cl : List Nat) (xs : List Int) (k : Nat) (all : Bool) : Prop :=
  (all = true → ∀ j, j < k → ∀ h : j < xs.length, grB gs (rOf cl xs[j].toNat) = true) ∧ (all = false → ∃ j, j < k ∧ ∃ h : j < xs.length, grB gs (rOf cl xs[j].toNat) = false)
theorem AllTo.next {gs : List Bool} {cl : List Nat} {xs : List Int} {k : Nat} {all b : Bool} (h : AllTo gs cl xs k all) (hk : k < xs.length) (hb : grB gs (rOf cl xs[k].toNat) = b) : AllTo gs cl xs (k + 1) (all && b) := by
  constructor
  · intro e j hj hjl
    simp only [Bool.and_eq_true] at e
    by_cases e2 : j < k
    · exact h.1 e.1 j e2 hjl
    · have : j = k := by omega
      subst this
      rw [hb]; exact e.2
  · intro e
    cases all
    · obtain ⟨j, hj, hjl, h2⟩ := h.2 rfl
      exact ⟨j, by omega, hjl, h2⟩
    · have e : b = false := by simpa using e
      exact ⟨k, by omega, hk, by rw [hb, e]⟩
/-- where the marks stand so far -/
structure RS (W : WebT) (ns : List TN) (cl : List Nat) (n : Nat) (gs0 : List Bool) (i : Nat) (gs : List Bool) (more : Bool) : Prop where
  len : gs.length = n
  grd : Grd W (rOf cl) (tmR ns cl) (loR ns cl) gs
  no : more = false → blanks gs = blanks gs0 ∧ ∀ j, j < i → Stuck W (rOf cl) (tmR ns cl) gs j
  yes : more = true → blanks gs < blanks gs0
  le : blanks gs ≤ blanks gs0
theorem RS.stay {W : WebT} {ns : List TN} {cl : List Nat} {n i : Nat} {gs0 gs : List Bool} {more : Bool} (h : RS W ns cl n gs0 i gs more) (hs : Stuck W (rOf cl) (tmR ns cl) gs i) : RS W ns cl n gs0 (i + 1) gs more :=
  ⟨h.len, h.grd, fun e => ⟨(h.no e).1, fun j hj => by
    by_cases e2 : j < i
    · exact (h.no e).2 j e2
    · rw [show j = i by omega]; exact hs⟩, h.yes, h.le⟩
theorem RS.mark {W : WebT} {ns : List TN} {cl : List Nat} {n i c : Nat} {gs0 gs : List Bool} {more : Bool} (h : RS W ns cl n gs0 i gs more) (hc : c < n) (hf : grB gs c = false) (hg : Grd W (rOf cl) (tmR ns cl) (loR ns cl) (gs.set c true)) : RS W ns cl n gs0 (i + 1) (gs.set c true) true := by
  have := blanks_set (gs := gs) (c := c) (by rw [h.len]; exact hc) hf
  have := h.le
  exact ⟨by rw [List.length_set]; exact h.len, hg, (fun e => by cases e), fun _ => by omega, by omega⟩

set_option maxRecDepth 100000 in
set_option maxHeartbeats 16000000 in
theorem rround_any (w : World) (B p g gc n cn cc : Nat) (ns : List TN) (cl : List Nat) (W : WebT) (E : List (Fo × Fo)) (hm : RM w B p (.slice (some ⟨g, 0, none⟩) n cn) (.slice (some ⟨gc, 0, none⟩) n cc) ns cl) (hrw : RW W E ns cl) (hl : n ≤ 1048576) (hn : ns.length = n) :
    Calls Try.prog 52 #[.pointer (some ⟨p, 0, none⟩)] w fun e w' => RoundIs W ns cl e ∧ Below w.heap.size w w' := by
  have HM0 := Lib.hid hm; have HRW := Lib.hid hrw; have HN := Lib.hid hn
  have HWN : Hid (W.n = n) := Lib.hid (by rw [hrw.n, hn])
  have HCN : Hid (cl.length = n) := Lib.hid (by rw [hrw.cn, hn])
  have hmk : ∀ w0, (Instr.makeSlice 118 (.int .i64 n) (.int .i64 n)).run Try.prog w0 = .ok (.slice (some ⟨w0.heap.size, 0, none⟩) n n) (w0.alloc (.cells (madeCells #[.bool false] n) 4)) := by
    intro w0
    obtain ⟨i, hi, hz, hsize, hby⟩ := info_parts bool_info15
    have := run_make (P := Try.prog) w0 118 4 i (.bool false) Try.underlying118 hi hz .i64 .i64 n n (by omega) (by omega) (by rw [hby]; omega) (by omega)
    rw [hsize] at this
    simpa [Value.cells] using this
  have p0 := hm.blk.cell 0
  simp at p0
  clear hm hrw hn
  go_enter Try.func52, Try.ntmps52
  go_upto_region 3 with fail
  have HG0 : Hid (BRow (w.alloc (.cells (madeCells #[.bool false] n) 4)) w.heap.size (List.replicate n false)) := Lib.hid (BRow.made w n)
  have HB0 : Hid (Below w.heap.size w (w.alloc (.cells (madeCells #[.bool false] n) 4))) := Lib.hid ((Below.refl _ _).alloc (Nat.le_refl _) _)
  clear hmk p0
  go_loopg [4] (n + 1) (fun gh s4 wx => ∃ (gs : List Bool) (more : Bool), s4 = .bool more ∧ gh = (if more then blanks gs + 1 else 0) ∧ gs.length = n ∧ Grd W (rOf cl) (tmR ns cl) (loR ns cl) gs ∧ BRow wx w.heap.size gs ∧ Below w.heap.size w wx ∧ (more = false → ∀ i, i < n → Stuck W (rOf cl) (tmR ns cl) gs i))
  case atStart => exact ⟨List.replicate n false, true, rfl, by have e : blanks (List.replicate n false) = n := (by unfold blanks; simp); rw [e]; rfl, by simp, Grd.start n, HG0.out, HB0.out, fun h => by cases h⟩
  case round =>
    clear HG0 HB0
    obtain ⟨gs0, more, rfl, rfl, hgl, hgr, hbr, hb, hst⟩ := hrel
    have HGL := Lib.hid hgl; have HGR := Lib.hid hgr; have HBR := Lib.hid hbr; have HB := Lib.hid hb; have HST := Lib.hid hst
    clear hgl hgr hbr hb hst
    cases more
    · have HST2 : Hid (∀ i, i < n → Stuck W (rOf cl) (tmR ns cl) gs0 i) := Lib.hid (by first | exact HST.out rfl | exact HST.out trivial)
      clear HST
      go_upto_region 20 with fail
      obtain ⟨wo, hwo⟩ : ∃ x, x = wr := ⟨_, rfl⟩
      subst hwo
      go_loopg [11] n (fun gh s11 wx => ∃ (j : Nat), s11 = .int .i64 j ∧ gh = n - j ∧ j ≤ n ∧ wo = wx ∧ ∀ i, i < j → grB gs0 (rOf cl i) = true)
      case atStart => exact ⟨0, rfl, rfl, Nat.zero_le _, rfl, fun i h => absurd h (Nat.not_lt_zero _)⟩
      case round =>
        obtain ⟨j, rfl, rfl, hj, rfl, hal⟩ := hrel
        have HAL := Lib.hid hal
        have HMC := Lib.hid (HM0.out.below HB.out)
        have p0 := HMC.out.blk.cell 0; have p1 := HMC.out.blk.cell 1
        simp at p0 p1
        have j0 : (0 : Int) ≤ j := by omega
        clear hal
        by_cases hjn : j < n
        · have hjn' : (j : Int) < n := by omega
          have HJC : Hid (j < cl.length) := Lib.hid (by rw [HCN.out]; exact hjn)
          obtain ⟨e0, _, _⟩ := HMC.out.clsG HJC.out
          have hx := HRW.out.lt j (by rw [HN.out]; exact hjn)
          rw [HN.out, rOf_at HJC.out] at hx
          obtain ⟨x, hxe⟩ : ∃ x, cl[j]'HJC.out = x := ⟨_, rfl⟩
          have HXE : Hid (rOf cl j = x) := Lib.hid (by rw [rOf_at HJC.out, hxe])
          rw [hxe] at e0 hx
          have g0 := HBR.out.cell (i := x) (by rw [HGL.out]; exact hx)
          have hx' : (x : Int) < n := by omega
          have x0 : (0 : Int) ≤ x := by omega
          clear hxe
          cases hgb : grB gs0 x
          · rw [hgb] at g0
            have HCY : Hid (Cyc W (rOf cl) (tmR ns cl)) := Lib.hid (stuck_end HRW.out.ok HRW.out.heads (fun i hi => HST2.out i (by rw [← HWN.out]; exact hi)) (i := j) (by rw [HWN.out]; exact hjn) (by rw [HXE.out]; exact hgb))
            clear hgb
            go_wp2
            go_ret
            exact ⟨.inl ⟨rfl, HCY.out⟩, HB.out⟩
          · rw [hgb] at g0
            have HAL2 : Hid (∀ i, i < j + 1 → grB gs0 (rOf cl i) = true) := Lib.hid (fun i hi => by
              by_cases e : i < j
              · exact HAL.out i e
              · rw [show i = j by omega, HXE.out]; exact hgb)
            clear hgb
            go_wp2
            go_roundg (n - (j + 1))
            case measure => omega
            case rel => exact ⟨j + 1, by go_num, rfl, by omega, rfl, HAL2.out⟩
        · have hjn' : ¬ (j : Int) < n := by omega
          have HLY : Hid (∀ k, k < W.n → ∃ T, Lay W (rOf cl) (tmR ns cl) (loR ns cl) (rOf cl k) T) := Lib.hid (fun k hk => HGR.out _ (HAL.out k (by rw [HWN.out] at hk; omega)))
          go_wp2
          go_ret
          exact ⟨.inr ⟨rfl, HLY.out⟩, HB.out⟩
    · clear HST
      go_upto_region 6 with fail
      have HRS : Hid (RS W ns cl n gs0 0 gs0 false) := Lib.hid ⟨HGL.out, HGR.out, fun _ => ⟨rfl, fun j h => absurd h (Nat.not_lt_zero _)⟩, (fun h => by cases h), Nat.le_refl _⟩
      go_loopg [4, 5] n (fun gh s4 s5 wx => ∃ (i : Nat) (gs : List Bool) (more : Bool), s4 = .bool more ∧ s5 = .int .i64 i ∧ gh = n - i ∧ i ≤ n ∧ RS W ns cl n gs0 i gs more ∧ BRow wx w.heap.size gs ∧ Below w.heap.size w wx)
      case atStart => exact ⟨0, gs0, false, rfl, rfl, rfl, Nat.zero_le _, HRS.out, HBR.out, HB.out⟩
      case round =>
        clear HRS HBR HB HGR HGL
        obtain ⟨i, gs, more, rfl, rfl, rfl, hi, hrs, hbr, hb⟩ := hrel
        have HRS := Lib.hid hrs; have HBR := Lib.hid hbr; have HB := Lib.hid hb
        have HMC := Lib.hid (HM0.out.below hb)
        have p0 := HMC.out.blk.cell 0; have p1 := HMC.out.blk.cell 1
        simp at p0 p1
        have i0 : (0 : Int) ≤ i := by omega
        clear hrs hbr hb
        by_cases hin : i < n
        · have hin' : (i : Int) < n := by omega
          have HIC : Hid (i < cl.length) := Lib.hid (by rw [HCN.out]; exact hin)
          obtain ⟨e0, _, _⟩ := HMC.out.clsG HIC.out
          have hx := HRW.out.lt i (by rw [HN.out]; exact hin)
          rw [HN.out, rOf_at HIC.out] at hx
          obtain ⟨x, hxe⟩ : ∃ x, cl[i]'HIC.out = x := ⟨_, rfl⟩
          have HXE : Hid (rOf cl i = x) := Lib.hid (by rw [rOf_at HIC.out, hxe])
          rw [hxe] at e0 hx
          have g0 := HBR.out.cell (i := x) (by rw [HRS.out.len]; exact hx)
          have hx' : (x : Int) < n := by omega
          have x0 : (0 : Int) ≤ x := by omega
          clear hxe
          cases hgb : grB gs x
          · rw [hgb] at g0
            have HGB := Lib.hid hgb
            clear hgb
            have HT := Lib.hid (rterm_any wr B p g gc n cn cc ns cl HMC.out hl HN.out HCN.out x)
            go_wp2_with fail
            refine HT.out.mono ?_
            clear HT p0 p1 e0 g0
            rintro _ w5 ⟨ht, hb5⟩
            have HB5 : Hid (Below w.heap.size w w5) := Lib.hid (HB.out.trans (hb5.mono HB.out.size))
            have HBR5 : Hid (BRow w5 w.heap.size gs) := Lib.hid (Blk.below HBR.out hb5 (Blk.lt HBR.out))
            have HBB5 := Lib.hid hb5
            clear hb5 HBR HB
            rcases ht with ⟨t, htl, htm, S, k, rfl, hk1, hk2, hargs⟩ | ⟨htm, rfl⟩
            · have HTM := Lib.hid htm; have HAR := Lib.hid hargs
              obtain ⟨nm, hnm⟩ : ∃ v, ns[t].name = v := ⟨_, rfl⟩
              obtain ⟨m, hmm⟩ : ∃ v, ns[t].args.length = v := ⟨_, rfl⟩
              have HML := Lib.hid hmm
              have HTL := Lib.hid htl
              rw [hnm, hmm]
              rw [hmm] at hk1
              have hkk : m ≤ k ∧ k ≤ 9223372036854775807 := by unfold maxLen at hk2; omega
              clear htm hargs hk1 hk2 hnm hmm
              go_upto_region 13 with fail
              obtain ⟨qt, hqt⟩ : ∃ z, w5.heap.size = z := ⟨_, rfl⟩
              obtain ⟨w6, hw6⟩ : ∃ z : World, w5.alloc (.cells #[.int .i64 0, .string nm, .slice S m k] 66) = z := ⟨_, rfl⟩
              have HB56 : Hid (Below w5.heap.size w5 w6) := Lib.hid (by rw [← hw6]; exact (Below.refl _ _).alloc (Nat.le_refl _) _)
              have HX6 : Hid (Blk w6 qt 66 #[.int .i64 0, .string nm, .slice S m k]) := Lib.hid (by rw [← hw6]; exact Blk.new' hqt.symm)
              (try rw [hqt])
              (try rw [hw6])
              clear hqt hw6
              have HB6 : Hid (Below w.heap.size w w6) := Lib.hid (HB5.out.trans (HB56.out.mono HB5.out.size))
              have HBR6 : Hid (BRow w6 w.heap.size gs) := Lib.hid (Blk.below HBR5.out HB56.out (Blk.lt HBR5.out))
              have HAR6 : Hid (∀ j (hj : j < (ns[t]'HTL.out).args.length), ∃ ga, S = some ⟨ga, 0, none⟩ ∧ ga < w6.heap.size ∧ w6.cell? ⟨ga, j, none⟩ = some (.int .i64 (ns[t]'HTL.out).args[j])) := Lib.hid (fun j hj => by
                obtain ⟨ga, e1, e2, e3⟩ := HAR.out j hj
                have hb2 : Below wr.heap.size wr w6 := HBB5.out.trans (HB56.out.mono HBB5.out.size)
                exact ⟨ga, e1, Nat.lt_of_lt_of_le e2 hb2.size, (hb2.cell (p := ⟨ga, j, none⟩) e2).trans e3⟩)
              clear HB5 HBR5 HBB5 HB56 HAR
              obtain ⟨wo, hwo⟩ : ∃ x, x = wr := ⟨_, rfl⟩
              subst hwo
              have HAT : Hid (AllTo gs cl (ns[t]'HTL.out).args 0 true) := Lib.hid ⟨fun _ j h => absurd h (Nat.not_lt_zero _), fun h => by cases h⟩
              go_loopg [9, 10] m (fun gh s9 s10 wx => ∃ (k : Nat) (all : Bool), s9 = .bool all ∧ s10 = .int .i64 k ∧ gh = m - k ∧ k ≤ m ∧ AllTo gs cl (ns[t]'HTL.out).args k all ∧ Below w6.heap.size w6 wx)
              case atStart => exact ⟨0, true, rfl, rfl, rfl, Nat.zero_le _, HAT.out, Below.refl _ _⟩
              case round =>
                clear HAT
                obtain ⟨j, all, rfl, rfl, rfl, hj, hat, hb7⟩ := hrel
                have HAT := Lib.hid hat; have HB7 := Lib.hid hb7
                have HBW : Hid (Below w.heap.size w wr) := Lib.hid (HB6.out.trans (hb7.mono HB6.out.size))
                have HX7 := Lib.hid (HX6.out.below hb7 HX6.out.lt)
                have HBR7 : Hid (BRow wr w.heap.size gs) := Lib.hid (Blk.below HBR6.out hb7 (Blk.lt HBR6.out))
                have x2 := HX7.out.cell 2
                simp at x2
                have j0 : (0 : Int) ≤ j := by omega
                clear hat hb7
                by_cases hjm : j < m
                · have hjm' : (j : Int) < m := by omega
                  have HJA : Hid (j < (ns[t]'HTL.out).args.length) := Lib.hid (by rw [HML.out]; exact hjm)
                  cases all
                  · have HAT2 : Hid (AllTo gs cl (ns[t]'HTL.out).args (j + 1) false) := Lib.hid (HAT.out.next HJA.out rfl)
                    go_wp2_with fail
                    go_quiet (fail)
                    go_wp2
                    go_roundg (m - (j + 1))
                    case measure => omega
                    case rel => exact ⟨j + 1, false, rfl, by go_num, rfl, by omega, HAT2.out, below_drewN HB7.out _⟩
                  · have HMR := HM0.out.below HBW.out
                    have p1 := HMR.blk.cell 1
                    simp at p1
                    obtain ⟨ga, hS, hgal, a0⟩ := HAR6.out j HJA.out
                    have a0 := (HB7.out.cell (p := ⟨ga, j, none⟩) hgal).trans a0
                    have hnd := (HRW.out.node _ (List.getElem_mem HTL.out)).args _ (List.getElem_mem HJA.out)
                    obtain ⟨z, hz⟩ : ∃ z : Nat, (ns[t]'HTL.out).args[j]'HJA.out = (z : Int) := ⟨((ns[t]'HTL.out).args[j]'HJA.out).toNat, by omega⟩
                    rw [hz] at hnd a0
                    have hzn : z < n := by have := HN.out; omega
                    have HZC : Hid (z < cl.length) := Lib.hid (by rw [HCN.out]; exact hzn)
                    obtain ⟨c0, _, _⟩ := HMR.clsG HZC.out
                    have hy := HRW.out.lt z (by rw [HN.out]; exact hzn)
                    rw [HN.out, rOf_at HZC.out] at hy
                    obtain ⟨y, hye⟩ : ∃ y, cl[z]'HZC.out = y := ⟨_, rfl⟩
                    rw [hye] at c0 hy
                    have b0 := HBR7.out.cell (i := y) (by rw [HRS.out.len]; exact hy)
                    obtain ⟨bb, hbb⟩ : ∃ bb, grB gs y = bb := ⟨_, rfl⟩
                    have HAT2 : Hid (AllTo gs cl (ns[t]'HTL.out).args (j + 1) bb) := Lib.hid (by
                      have := HAT.out.next HJA.out (b := bb) (by rw [hz, Int.toNat_natCast, rOf_at HZC.out, hye]; exact hbb)
                      simpa using this)
                    rw [hbb] at b0
                    have hz' : (z : Int) < n := by omega
                    have z0 : (0 : Int) ≤ z := by omega
                    have hy' : (y : Int) < n := by omega
                    have y0 : (0 : Int) ≤ y := by omega
                    rw [hS] at x2
                    clear HMR hye hbb hz hnd hS hgal HAT
                    go_wp2_with fail
                    go_quiet (fail)
                    go_wp2
                    go_roundg (m - (j + 1))
                    case measure => omega
                    case rel => exact ⟨j + 1, bb, rfl, by go_num, rfl, by omega, HAT2.out, below_drewN HB7.out _⟩
                · have hjm' : ¬ (j : Int) < m := by omega
                  have HND := Lib.hid (HRW.out.app_ HTL.out (tmR_is HTM.out).2.2)
                  have HTX : Hid (tmR ns cl (rOf cl i) = some t) := Lib.hid (by rw [HXE.out]; exact HTM.out)
                  cases all
                  · have HSK : Hid (Stuck W (rOf cl) (tmR ns cl) gs i) := Lib.hid (by
                      obtain ⟨j', _, hj', h2⟩ := HAT.out.2 rfl
                      exact .inr ⟨t, _, _, HTX.out, HND.out, _, List.mem_map_of_mem (List.getElem_mem hj'), h2⟩)
                    have HRS2 := Lib.hid (HRS.out.stay HSK.out)
                    go_wp2
                    go_roundg (n - (i + 1))
                    case measure => omega
                    case rel => exact ⟨i + 1, gs, more, rfl, by go_num, rfl, by omega, HRS2.out, HBR7.out, HBW.out⟩
                  · have HGD : Hid (Grd W (rOf cl) (tmR ns cl) (loR ns cl) (gs.set x true)) := Lib.hid (HRS.out.grd.some (by rw [HRS.out.len]; exact hx) HTM.out HND.out (fun a ha => by
                      obtain ⟨v, hv, rfl⟩ := List.mem_map.1 ha
                      obtain ⟨j', hj', rfl⟩ := List.getElem_of_mem hv
                      exact HAT.out.1 rfl j' (by rw [HML.out] at hj'; omega) hj'))
                    have HRS2 := Lib.hid (HRS.out.mark hx HGB.out HGD.out)
                    have HBR8 : Hid (BRow (wr.setCell ⟨w.heap.size, x, none⟩ (.bool true)) w.heap.size (gs.set x true)) := Lib.hid (HBR7.out.set_ x true)
                    have HB8 : Hid (Below w.heap.size w (wr.setCell ⟨w.heap.size, x, none⟩ (.bool true))) := Lib.hid (HBW.out.setCell (p := ⟨w.heap.size, x, none⟩) (Nat.le_refl _) _)
                    have g0 := HBR7.out.cell (i := x) (by rw [HRS.out.len]; exact hx)
                    have g0f := Blk.frozen HBR7.out x
                    have hbl := Blk.lt HBR7.out
                    clear HRS HBR7 HBW HAT
                    go_wp2
                    go_roundg (n - (i + 1))
                    case measure => omega
                    case rel => exact ⟨i + 1, _, true, rfl, by go_num, rfl, by omega, HRS2.out, HBR8.out, HB8.out⟩
            · have HTM := Lib.hid htm
              have HGD : Hid (Grd W (rOf cl) (tmR ns cl) (loR ns cl) (gs.set x true)) := Lib.hid (HRS.out.grd.none (by rw [HRS.out.len]; exact hx) HTM.out)
              have HRS2 := Lib.hid (HRS.out.mark hx HGB.out HGD.out)
              clear htm
              go_upto_region 13 with fail
              obtain ⟨w6, hw6⟩ : ∃ z : World, w5.alloc (.cells #[.int .i64 0, .string ⟨#[]⟩, .slice none 0 0] 66) = z := ⟨_, rfl⟩
              have HB56 : Hid (Below w5.heap.size w5 w6) := Lib.hid (by rw [← hw6]; exact (Below.refl _ _).alloc (Nat.le_refl _) _)
              have HB6 : Hid (Below w.heap.size w w6) := Lib.hid (HB5.out.trans (HB56.out.mono HB5.out.size))
              have HBR6 : Hid (BRow w6 w.heap.size gs) := Lib.hid (Blk.below HBR5.out HB56.out (Blk.lt HBR5.out))
              (try rw [hw6])
              clear hw6 HB5 HBR5 HBB5 HB56
              have HBR8 : Hid (BRow (w6.setCell ⟨w.heap.size, x, none⟩ (.bool true)) w.heap.size (gs.set x true)) := Lib.hid (HBR6.out.set_ x true)
              have HB8 : Hid (Below w.heap.size w (w6.setCell ⟨w.heap.size, x, none⟩ (.bool true))) := Lib.hid (HB6.out.setCell (p := ⟨w.heap.size, x, none⟩) (Nat.le_refl _) _)
              have HGX : Hid (w6.cell? ⟨w.heap.size, x, none⟩ = some (.bool (grB gs x))) := Lib.hid (HBR6.out.cell (i := x) (by rw [HRS.out.len]; exact hx))
              have HGF := Lib.hid (Blk.frozen HBR6.out x)
              have HBL := Lib.hid (Blk.lt HBR6.out)
              clear HRS HBR6
              obtain ⟨wo, hwo⟩ : ∃ x, x = wr := ⟨_, rfl⟩
              subst hwo
              go_loopg [9, 10] 0 (fun gh s9 s10 wx => s9 = .bool true ∧ s10 = .int .i64 0 ∧ gh = 0 ∧ w6 = wx)
              case atStart => exact ⟨rfl, rfl, rfl, rfl⟩
              case round =>
                obtain ⟨rfl, rfl, rfl, rfl⟩ := hrel
                have g0 := HGX.out; have g0f := HGF.out; have hbl := HBL.out
                go_wp2
                go_roundg (n - (i + 1))
                case measure => omega
                case rel => exact ⟨i + 1, _, true, rfl, by go_num, rfl, by omega, HRS2.out, HBR8.out, HB8.out⟩
          · rw [hgb] at g0
            have HRS2 := Lib.hid (HRS.out.stay (.inl (by rw [HXE.out]; exact hgb)))
            clear hgb
            go_wp2
            go_roundg (n - (i + 1))
            case measure => omega
            case rel => exact ⟨i + 1, gs, more, rfl, by go_num, rfl, by omega, HRS2.out, HBR.out, HB.out⟩
        · have hin' : ¬ (i : Int) < n := by omega
          have hie : i = n := by omega
          have HMS : Hid ((if more then blanks gs + 1 else 0) < blanks gs0 + 1) := Lib.hid (by
            cases more
            · simp
            · have := HRS.out.yes rfl; simp; omega)
          go_wp2
          go_roundg (if more then blanks gs + 1 else 0)
          case measure => exact HMS.out
          case rel => exact ⟨gs, more, rfl, rfl, HRS.out.len, HRS.out.grd, HBR.out, HB.out, fun h j hj => (HRS.out.no h).2 j (by omega)⟩
end Go.Proofs.Ytgcbnndbeoekgaa
