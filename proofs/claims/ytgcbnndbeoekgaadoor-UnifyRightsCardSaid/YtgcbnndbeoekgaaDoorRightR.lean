/- the document's Right -/
import Derived.Test.YtgcbnndbeoekgaaDoorRightU
import Derived.Test.YtgcbnndbeoekgaaDoorRegX
import Derived.Lib.QuietBelow
import Derived.Deep.DeepCutAuto
set_option linter.unusedSimpArgs false
set_option linter.unusedVariables false
namespace Go.Proofs.YtgcbnndbeoekgaaDoor
open Go Go.RowKit

theorem int_info15 : (Tryd.prog.info? 3).map (fun i => (i.zero, i.size, i.bytes)) = some (some (.int .i64 0), 1, 8) := by kernel_rfl
/-- a row of numbers that stands in a block -/
def Row1 (w : World) (g : Nat) (l : List Nat) : Prop := Blk w g 3 (l.map fun n : Nat => Value.int .i64 n).toArray
theorem Row1.cell {w : World} {g : Nat} {l : List Nat} (h : Row1 w g l) {i : Nat} (hi : i < l.length) : w.cell? ⟨g, i, none⟩ = some (.int .i64 l[i]) := by
  rw [Blk.cell h i]; simp [hi]
theorem Row1.set_ {w : World} {g : Nat} {l : List Nat} (h : Row1 w g l) (i : Nat) (b : Nat) : Row1 (w.setCell ⟨g, i, none⟩ (.int .i64 b)) g (l.set i b) := by
  have := Blk.set_ h i (.int .i64 b)
  unfold Row1
  rw [List.map_set]
  simpa using this
theorem Row1.made (w : World) (k : Nat) : Row1 (w.alloc (.cells (madeCells #[.int .i64 0] k) 3)) w.heap.size (List.replicate k 0) := by
  have e : madeCells #[.int .i64 0] k = ((List.replicate k 0).map fun n : Nat => Value.int .i64 n).toArray := by
    unfold madeCells
    apply Array.ext
    · simp
    · intro i h1 h2
      simp [Nat.mod_one]
  unfold Row1
  rw [← e]; exact Blk.new _ _ _
/-- how far the nodes from a place on reach -/
structure Reached (l : List TN) (ml : List Nat) (i : Nat) : Prop where
  len : ml.length = l.length
  ok : ∀ j (h : j < l.length) (h' : j < ml.length), i ≤ j → NodeR l[j] ∧ ordN l j = some (j + ml[j])
theorem Reached.start (l : List TN) : Reached l (List.replicate l.length 0) l.length := ⟨by simp, fun j h _ h2 => by omega⟩
theorem Reached.next {l : List TN} {ml : List Nat} {j m : Nat} (h : Reached l ml (j + 1)) (hj : j < l.length) (hn : NodeR l[j]) (ho : ordN l j = some m) (hm : j ≤ m) : Reached l (ml.set j (m - j)) j := by
  refine ⟨by simp [h.len], fun k hk hk' hjk => ?_⟩
  by_cases e : j = k
  · subst e
    refine ⟨hn, ?_⟩
    rw [List.getElem_set_self, ho]; congr 1; omega
  · rw [List.getElem_set_ne e]
    exact h.ok k hk (by simpa using hk') (by omega)

set_option maxRecDepth 100000 in
set_option maxHeartbeats 8000000 in
theorem rright_any (A : Option Addr) (c : Nat) (l : List TN) (w : World) (F : Nat → Prop) (hF : ∀ b, F b → b < w.heap.size) (hr : RowOf 3 ETN w F A l) (hlc : l.length ≤ c) (hc : c ≤ maxLen) (hz : ∀ t ∈ l, t.name.size ≤ 9223372036854775807) :
    Calls Tryd.prog 11 #[.agg #[.slice A l.length c]] w fun e w' => e = .returned (.int .i64 (rightI l)) ∧ Below w.heap.size w w' := by
  have HR := Lib.hid hr
  obtain ⟨r, hrr⟩ : ∃ r, rightI l = r := ⟨_, rfl⟩
  have HL : Hid (256 < l.length → r = 3) := Lib.hid (fun h => by rw [← hrr]; exact rightI_long h)
  have HB : Hid (¬ 256 < l.length → ¬ GoodN l → r = 2) := Lib.hid (fun h h2 => by rw [← hrr]; exact rightI_bad h h2)
  have HG : Hid (¬ 256 < l.length → GoodN l → r = 0) := Lib.hid (fun h h2 => by rw [← hrr]; exact rightI_good h h2)
  have HZ := Lib.hid hz
  rw [hrr]
  clear hrr hr hz
  unfold maxLen at hc
  have hll : l.length ≤ 9223372036854775807 := by omega
  by_cases hg : 256 < l.length
  · have HX : Hid (r = 3) := Lib.hid (HL.out hg)
    have g1 : (256 : Int) < l.length := by omega
    go_enter Tryd.func11, Tryd.ntmps11
    go_wp2
    go_ret
    exact ⟨by rw [HX.out]; rfl, (Below.refl _ _).alloc (Nat.le_refl _) _⟩
  have g1 : ¬ (256 : Int) < l.length := by omega
  by_cases h0 : l.length = 0
  · have HX : Hid (r = 2) := Lib.hid (HB.out hg (by rw [List.eq_nil_of_length_eq_zero h0]; intro h; have := h.2; cases this))
    have e0 : ((l.length : Int) == 0) = true := by rw [h0]; rfl
    have H0 := Lib.hid h0
    clear h0
    go_enter Tryd.func11, Tryd.ntmps11
    go_wp2
    go_ret
    exact ⟨by rw [HX.out]; rfl, (Below.refl _ _).alloc (Nat.le_refl _) _⟩
  have e0 : ((l.length : Int) == 0) = false := beq_eq_false_iff_ne.2 (by omega)
  have hmk : ∀ w0, (Instr.makeSlice 51 (.int .i64 l.length) (.int .i64 l.length)).run Tryd.prog w0 = .ok (.slice (some ⟨w0.heap.size, 0, none⟩) l.length l.length) (w0.alloc (.cells (madeCells #[.int .i64 0] l.length) 3)) := by
    intro w0
    obtain ⟨i, hi, hz, hsize, hby⟩ := info_parts int_info15
    have := run_make (P := Tryd.prog) w0 51 3 i (.int .i64 0) Tryd.underlying51 hi hz .i64 .i64 l.length l.length (by omega) (by omega) (by rw [hby]; omega) (by omega)
    rw [hsize] at this
    simpa [Value.cells] using this
  go_enter Tryd.func11, Tryd.ntmps11
  go_wp2
  clear hmk
  go_loopg [5] l.length (fun g s5 wx => ∃ (i : Nat) (ml : List Nat), s5 = .int .i64 ((i : Int) - 1) ∧ g = i ∧ i ≤ l.length ∧ Below w.heap.size w wx ∧ Blk wx w.heap.size 24 #[.slice A l.length c] ∧ Row1 wx (w.heap.size + 1) ml ∧ Reached l ml i)
  case atStart => exact ⟨l.length, List.replicate l.length 0, rfl, rfl, Nat.le_refl _, ((Below.refl _ _).alloc (Nat.le_refl _) _).alloc (by simp) _, (Blk.new _ _ _).alloc _, by simpa using Row1.made (w.alloc (.cells #[.slice A l.length c] 24)) l.length, Reached.start l⟩
  case round =>
    obtain ⟨i, ml, rfl, hgi, hi, hb, hx, hm, hre⟩ := hrel
    have hgi := hgi.symm
    subst hgi
    have HBW := Lib.hid hb; have HX := Lib.hid hx; have HM := Lib.hid hm; have HRE := Lib.hid hre
    have hx0 := hx.cell 0
    simp at hx0
    have hlx := hx.lt; have hlm := Blk.lt hm
    clear hx hm hre
    rcases Nat.eq_zero_or_pos i with hi0 | hi0
    · subst hi0
      have hml : 0 < ml.length := by rw [HRE.out.len]; omega
      have hm0 := HM.out.cell hml
      have hq : ordN l 0 = some (0 + ml[0]) := (HRE.out.ok 0 (by omega) hml (Nat.le_refl _)).2
      have HALL : Hid (∀ t ∈ l, NodeR t) := Lib.hid (fun t ht => by
        obtain ⟨j, hj, rfl⟩ := List.getElem_of_mem ht
        exact (HRE.out.ok j hj (by rw [HRE.out.len]; exact hj) (Nat.zero_le _)).1)
      generalize ml[0] = m at *
      have hl0 : (0 : Int) < l.length := by omega
      by_cases hml2 : m = l.length
      · have HZZ : Hid (r = 0) := Lib.hid (HG.out hg ⟨HALL.out, by rw [hq]; congr 1; omega⟩)
        have hd : ((m : Int) != l.length) = false := bne_eq_false_iff_eq.2 (by omega)
        have HML := Lib.hid hml2
        clear hml2 hq hb hx0 h0
        go_wp2
        go_ret
        exact ⟨by rw [HZZ.out]; rfl, HBW.out⟩
      · have HZZ : Hid (r = 2) := Lib.hid (HB.out hg (bad_end (by rw [hq]; intro e; injection e with e; omega)))
        have hd : ((m : Int) != l.length) = true := by simp; omega
        clear hml2 hq hb hx0 h0
        go_wp2
        go_ret
        exact ⟨by rw [HZZ.out]; rfl, HBW.out⟩
    · obtain ⟨j, rfl⟩ : ∃ j, i = j + 1 := ⟨i - 1, by omega⟩
      have hji : (((j + 1 : Nat) : Int) - 1) = (j : Int) := by omega
      rw [hji]
      clear hji
      have hlt : j < l.length := by omega
      have hlt' : (j : Int) < l.length := by omega
      have j0 : (0 : Int) ≤ j := by omega
      obtain ⟨b, off, S, k, rfl, hbF, d0, d1, d2, hk1, hk2, hrow⟩ := nodes_at HR.out hlt
      have hrow0 := hrow
      have d0 := (hb.cell (p := ⟨b, off + j * 3, none⟩) (hF b hbF)).trans d0
      have d1 := (hb.cell (p := ⟨b, off + j * 3 + 1, none⟩) (hF b hbF)).trans d1
      have d2 := (hb.cell (p := ⟨b, off + j * 3 + 2, none⟩) (hF b hbF)).trans d2
      have hbw := hF b hbF
      have hnz := HZ.out _ (List.getElem_mem hlt)
      have HBAD : Hid (¬ NodeR l[j] → r = 2) := Lib.hid fun h => HB.out hg (bad_node hlt h)
      have HBO : Hid (ordN l j = none → r = 2) := Lib.hid fun h => HB.out hg (bad_ord hlt h)
      have HNX : Hid (∀ m, NodeR l[j] → ordN l j = some m → j ≤ m → Reached l (ml.set j (m - j)) j) := Lib.hid fun m h1 h2 h3 => HRE.out.next hlt h1 h2 h3
      have HFULL : Hid (∀ m, ordA (ordN l) l.length (l[j].args.take l[j].args.length) (j + 1) = some m → ordN l j = some m) := Lib.hid fun m h => ordN_full hlt h
      have HFAIL : Hid (∀ k next (hk : k < l[j].args.length), ordA (ordN l) l.length (l[j].args.take k) (j + 1) = some next → (l[j].args[k] ≠ (next : Int) ∨ ¬ next < l.length ∨ ordN l next = none) → ordN l j = none) := Lib.hid fun k next hk h h1 => ordN_fail hlt hk h h1
      obtain ⟨t, ht⟩ : ∃ t, l[j] = t := ⟨_, rfl⟩
      rw [ht] at d0 d1 d2 hk1 hrow hrow0 hnz HBAD HNX HFULL
      have HFAIL : Hid (∀ k next (hk : k < t.args.length), ordA (ordN l) l.length (t.args.take k) (j + 1) = some next → (t.args[k] ≠ (next : Int) ∨ ¬ next < l.length ∨ ordN l next = none) → ordN l j = none) := Lib.hid (by subst ht; exact HFAIL.out)
      clear ht hb
      obtain ⟨x, y, la⟩ := t
      simp only at d0 d1 d2 hk1 hnz hrow hrow0 HFULL HFAIL
      have hkm := hk2
      unfold maxLen at hkm
      have HROW := Lib.hid hrow
      have HHOLE := Lib.hid (fun wx => rhole_any x y S la k wx hk2 hk1)
      have HRR := Lib.hid (fun wx => refRight_any y wx hnz)
      have hF2 := hF
      have HROWF : Hid (RowOf 1 EInt w F S la) := Lib.hid hrow0
      clear hrow hk2
      obtain ⟨hb1, hhb⟩ : ∃ q, holeB ⟨x, y, la⟩ = q := ⟨_, rfl⟩
      have HHB := Lib.hid hhb
      obtain ⟨rb, hrb⟩ : ∃ q, rightB y.data.toList = q := ⟨_, rfl⟩
      have HRB := Lib.hid hrb
      rw [hhb] at HHOLE
      rw [hrb] at HRR
      clear hhb hrb
      obtain ⟨wo, hwo⟩ : ∃ x, x = wr := ⟨_, rfl⟩
      subst hwo
      go_upto_region 11 with fail
      obtain ⟨u, hu⟩ : ∃ u : World, wo.alloc (.cells #[.int .i64 x, .string y, .slice S la.length k] 58) = u := ⟨_, rfl⟩
      have HB1 : Hid (Below w.heap.size w u) := Lib.hid (by rw [← hu]; exact HBW.out.alloc HBW.out.size _)
      have HX1 : Hid (Blk u w.heap.size 24 #[.slice (some ⟨b, off, none⟩) l.length c]) := Lib.hid (by rw [← hu]; exact HX.out.alloc _)
      have HM1 : Hid (Row1 u (w.heap.size + 1) ml) := Lib.hid (by rw [← hu]; exact Blk.alloc HM.out _)
      have HT1 : Hid (Blk u wo.heap.size 58 #[.int .i64 x, .string y, .slice S la.length k]) := Lib.hid (by rw [← hu]; exact Blk.new _ _ _)
      obtain ⟨q, hq⟩ : ∃ q, wo.heap.size = q := ⟨_, rfl⟩
      have HQ1 : Hid (w.heap.size + 1 < q) := Lib.hid (by omega)
      rw [hu]
      try rw [hq] at HT1 ⊢
      clear hu HBW HX HM d0 d1 d2 hx0 hlx hlm
      have t0 := HT1.out.cell 0; have t1 := HT1.out.cell 1; have t2 := HT1.out.cell 2
      simp at t0 t1 t2
      have HQE := Lib.hid hq
      clear hq
      cases hb1
      · by_cases hx0 : x = 0
        · subst hx0
          cases rb
          · have HZZ : Hid (r = 2) := Lib.hid (HBAD.out (by
              intro h
              rcases h with h | h
              · have := h.1; simp at this
              · have h2 := HRB.out; rw [h.2] at h2; cases h2))
            go_wp2_with fail
            refine (HHOLE.out _).mono ?_
            rintro _ u2 ⟨rfl, hb2⟩
            have HB2 := Lib.hid (HB1.out.trans (hb2.mono HB1.out.size))
            have HX2 := Lib.hid (HX1.out.below hb2 HX1.out.lt); have HM2 : Hid (Row1 u2 (w.heap.size + 1) ml) := Lib.hid (Blk.below HM1.out hb2 (Blk.lt HM1.out)); have HT2 := Lib.hid (HT1.out.below hb2 HT1.out.lt)
            clear hb2 HB1 HX1 HM1 HT1 t0 t1 t2
            have t0 := HT2.out.cell 0; have t1 := HT2.out.cell 1
            simp at t0 t1
            go_wp2_with fail
            refine (HRR.out _).mono ?_
            rintro _ u3 ⟨rfl, hu3⟩
            subst hu3
            clear t0 t1
            go_wp2
            go_ret
            exact ⟨by rw [HZZ.out]; rfl, HB2.out⟩
          · have HZZ : Hid (NodeR ⟨0, y, la⟩) := Lib.hid (.inr ⟨rfl, HRB.out⟩)
            go_wp2_with fail
            refine (HHOLE.out _).mono ?_
            rintro _ u2 ⟨rfl, hb2⟩
            have HB2 := Lib.hid (HB1.out.trans (hb2.mono HB1.out.size))
            have HX2 := Lib.hid (HX1.out.below hb2 HX1.out.lt); have HM2 : Hid (Row1 u2 (w.heap.size + 1) ml) := Lib.hid (Blk.below HM1.out hb2 (Blk.lt HM1.out)); have HT2 := Lib.hid (HT1.out.below hb2 HT1.out.lt)
            clear hb2 HB1 HX1 HM1 HT1 t0 t1 t2
            have t0 := HT2.out.cell 0; have t1 := HT2.out.cell 1
            simp at t0 t1
            go_wp2_with fail
            refine (HRR.out _).mono ?_
            rintro _ u3 ⟨rfl, hu3⟩
            subst hu3
            clear t0 t1
            have t2 := HT2.out.cell 2
            simp at t2
            go_upto_region 15 with fail
            clear t2
            go_loopg [7, 8] la.length (fun g s7 s8 wx => ∃ (kk next : Nat), s8 = .int .i64 kk ∧ s7 = .int .i64 next ∧ g = la.length - kk ∧ kk ≤ la.length ∧ j < next ∧ next ≤ l.length ∧ ordA (ordN l) l.length (la.take kk) (j + 1) = some next ∧ Below w.heap.size w wx ∧ Blk wx w.heap.size 24 #[.slice (some ⟨b, off, none⟩) l.length c] ∧ Row1 wx (w.heap.size + 1) ml ∧ Blk wx q 58 #[.int .i64 0, .string y, .slice S la.length k])
            case atStart => exact ⟨0, j + 1, rfl, by go_num, rfl, Nat.zero_le _, by omega, by omega, rfl, HB2.out, HX2.out, HM2.out, HT2.out⟩
            case round =>
              clear HB2 HX2 HM2 HT2
              obtain ⟨kk, next, rfl, rfl, rfl, hkk, hn1, hn2, ho, hb, hx, hm, ht⟩ := hrel
              have HB3 := Lib.hid hb; have HX3 := Lib.hid hx; have HM3 := Lib.hid hm; have HT3 := Lib.hid ht; have HO := Lib.hid ho
              have t2 := ht.cell 2
              simp at t2
              have hlt3 := ht.lt
              clear hx hm ht ho
              have kk0 : (0 : Int) ≤ kk := by omega
              have nx0 : (0 : Int) ≤ next := by omega
              by_cases hkl : kk < la.length
              · have hkl' : (kk : Int) < la.length := by omega
                obtain ⟨g, o, rfl, hgF, a1⟩ := ints_at (RowOf.keep EInt.stays (Keep.below hb hF2) (F' := F) (fun _ h => h) HROWF.out) hkl
                have HSTEP : Hid (∀ m, la[kk] = (next : Int) → next < l.length → ordN l next = some m → ordA (ordN l) l.length (la.take (kk + 1)) (j + 1) = some m) := Lib.hid fun m h1 h2 h3 => ordA_step hkl HO.out h1 h2 h3
                have HF := Lib.hid (HFAIL.out kk next hkl HO.out)
                generalize la[kk] = a at *
                clear hb
                by_cases ha : a = (next : Int)
                · subst ha
                  have e1 : ((next : Int) != next) = false := by simp
                  by_cases hnl : next < l.length
                  · have hnl' : ¬ (l.length : Int) ≤ next := by omega
                    have hml : next < ml.length := by rw [HRE.out.len]; exact hnl
                    have hr2 : ordN l next = some (next + ml[next]) := (HRE.out.ok next hnl hml (by omega)).2
                    have HYES := Lib.hid (HSTEP.out _ rfl hnl hr2)
                    obtain ⟨g1', g2'⟩ := ordN_gt hr2
                    have m0 := HM3.out.cell hml
                    have hml' : (next : Int) < l.length := by omega
                    generalize ml[next] = mm at *
                    clear hr2
                    go_wp2
                    go_roundg (la.length - (kk + 1))
                    case measure => omega
                    case rel => exact ⟨kk + 1, next + mm, by go_num, by go_num, rfl, by omega, by omega, g2', HYES.out, HB3.out, HX3.out, HM3.out, HT3.out⟩
                  · have hnl' : (l.length : Int) ≤ next := by omega
                    have HZ2 : Hid (r = 2) := Lib.hid (HBO.out (HF.out (.inr (.inl hnl))))
                    go_wp2
                    go_ret
                    exact ⟨by rw [HZ2.out]; rfl, HB3.out⟩
                · have e1 : (a != (next : Int)) = true := by simp; exact ha
                  have HZ2 : Hid (r = 2) := Lib.hid (HBO.out (HF.out (.inl ha)))
                  clear ha
                  go_wp2
                  go_ret
                  exact ⟨by rw [HZ2.out]; rfl, HB3.out⟩
              · have hkl' : ¬ (kk : Int) < la.length := by omega
                have hfull : ordN l j = some next := HFULL.out next (by rw [show la.length = kk by omega]; exact HO.out)
                have HNEW := Lib.hid (HNX.out next HZZ.out hfull (by omega))
                have hjm : j < ml.length := by rw [HRE.out.len]; exact hlt
                have e4 := Blk.frozen HM3.out j
                have c4 := HM3.out.cell hjm
                have hsub : (next : Int) - j = ((next - j : Nat) : Int) := by omega
                have HSUB := Lib.hid hsub
                generalize ml[j] = mj at c4
                clear hfull hsub hb
                go_wp2
                go_roundg j
                case measure => omega
                case rel => exact ⟨j, ml.set j (next - j), by go_num, rfl, by omega, HB3.out.setCell (p := ⟨w.heap.size + 1, j, none⟩) (by show w.heap.size ≤ w.heap.size + 1; omega) _, HX3.out.far (p := ⟨w.heap.size + 1, j, none⟩) (by show w.heap.size ≠ w.heap.size + 1; omega) _, by rw [HSUB.out]; exact HM3.out.set_ j (next - j), HNEW.out⟩
        · have hx1 : (x != 0) = true := by simp; exact hx0
          have HZZ : Hid (r = 2) := Lib.hid (HBAD.out (by
            intro h
            rcases h with h | h
            · have := holeB_iff.2 h; rw [HHB.out] at this; cases this
            · exact hx0 h.1))
          go_wp2_with fail
          refine (HHOLE.out _).mono ?_
          rintro _ u2 ⟨rfl, hb2⟩
          have HB2 := Lib.hid (HB1.out.trans (hb2.mono HB1.out.size))
          have HX2 := Lib.hid (HX1.out.below hb2 HX1.out.lt); have HM2 : Hid (Row1 u2 (w.heap.size + 1) ml) := Lib.hid (Blk.below HM1.out hb2 (Blk.lt HM1.out)); have HT2 := Lib.hid (HT1.out.below hb2 HT1.out.lt)
          clear hb2 HB1 HX1 HM1 HT1 t0 t1 t2
          have t0 := HT2.out.cell 0; have t1 := HT2.out.cell 1
          simp at t0 t1
          go_wp2
          clear t0 t1
          go_ret
          exact ⟨by rw [HZZ.out]; rfl, HB2.out⟩
      · have HZZ : Hid (NodeR ⟨x, y, la⟩) := Lib.hid (.inl (holeB_iff.1 HHB.out))
        go_wp2_with fail
        refine (HHOLE.out _).mono ?_
        rintro _ u2 ⟨rfl, hb2⟩
        have HB2 := Lib.hid (HB1.out.trans (hb2.mono HB1.out.size))
        have HX2 := Lib.hid (HX1.out.below hb2 HX1.out.lt); have HM2 : Hid (Row1 u2 (w.heap.size + 1) ml) := Lib.hid (Blk.below HM1.out hb2 (Blk.lt HM1.out)); have HT2 := Lib.hid (HT1.out.below hb2 HT1.out.lt)
        clear hb2 HB1 HX1 HM1 HT1 t0 t1 t2
        have t0 := HT2.out.cell 0; have t1 := HT2.out.cell 1
        simp at t0 t1
        clear t0 t1
        have t2 := HT2.out.cell 2
        simp at t2
        go_upto_region 15 with fail
        clear t2
        go_loopg [7, 8] la.length (fun g s7 s8 wx => ∃ (kk next : Nat), s8 = .int .i64 kk ∧ s7 = .int .i64 next ∧ g = la.length - kk ∧ kk ≤ la.length ∧ j < next ∧ next ≤ l.length ∧ ordA (ordN l) l.length (la.take kk) (j + 1) = some next ∧ Below w.heap.size w wx ∧ Blk wx w.heap.size 24 #[.slice (some ⟨b, off, none⟩) l.length c] ∧ Row1 wx (w.heap.size + 1) ml ∧ Blk wx q 58 #[.int .i64 x, .string y, .slice S la.length k])
        case atStart => exact ⟨0, j + 1, rfl, by go_num, rfl, Nat.zero_le _, by omega, by omega, rfl, HB2.out, HX2.out, HM2.out, HT2.out⟩
        case round =>
          clear HB2 HX2 HM2 HT2
          obtain ⟨kk, next, rfl, rfl, rfl, hkk, hn1, hn2, ho, hb, hx, hm, ht⟩ := hrel
          have HB3 := Lib.hid hb; have HX3 := Lib.hid hx; have HM3 := Lib.hid hm; have HT3 := Lib.hid ht; have HO := Lib.hid ho
          have t2 := ht.cell 2
          simp at t2
          have hlt3 := ht.lt
          clear hx hm ht ho
          have kk0 : (0 : Int) ≤ kk := by omega
          have nx0 : (0 : Int) ≤ next := by omega
          by_cases hkl : kk < la.length
          · have hkl' : (kk : Int) < la.length := by omega
            obtain ⟨g, o, rfl, hgF, a1⟩ := ints_at (RowOf.keep EInt.stays (Keep.below hb hF2) (F' := F) (fun _ h => h) HROWF.out) hkl
            have HSTEP : Hid (∀ m, la[kk] = (next : Int) → next < l.length → ordN l next = some m → ordA (ordN l) l.length (la.take (kk + 1)) (j + 1) = some m) := Lib.hid fun m h1 h2 h3 => ordA_step hkl HO.out h1 h2 h3
            have HF := Lib.hid (HFAIL.out kk next hkl HO.out)
            generalize la[kk] = a at *
            clear hb
            by_cases ha : a = (next : Int)
            · subst ha
              have e1 : ((next : Int) != next) = false := by simp
              by_cases hnl : next < l.length
              · have hnl' : ¬ (l.length : Int) ≤ next := by omega
                have hml : next < ml.length := by rw [HRE.out.len]; exact hnl
                have hr2 : ordN l next = some (next + ml[next]) := (HRE.out.ok next hnl hml (by omega)).2
                have HYES := Lib.hid (HSTEP.out _ rfl hnl hr2)
                obtain ⟨g1', g2'⟩ := ordN_gt hr2
                have m0 := HM3.out.cell hml
                have hml' : (next : Int) < l.length := by omega
                generalize ml[next] = mm at *
                clear hr2
                go_wp2
                go_roundg (la.length - (kk + 1))
                case measure => omega
                case rel => exact ⟨kk + 1, next + mm, by go_num, by go_num, rfl, by omega, by omega, g2', HYES.out, HB3.out, HX3.out, HM3.out, HT3.out⟩
              · have hnl' : (l.length : Int) ≤ next := by omega
                have HZ2 : Hid (r = 2) := Lib.hid (HBO.out (HF.out (.inr (.inl hnl))))
                go_wp2
                go_ret
                exact ⟨by rw [HZ2.out]; rfl, HB3.out⟩
            · have e1 : (a != (next : Int)) = true := by simp; exact ha
              have HZ2 : Hid (r = 2) := Lib.hid (HBO.out (HF.out (.inl ha)))
              clear ha
              go_wp2
              go_ret
              exact ⟨by rw [HZ2.out]; rfl, HB3.out⟩
          · have hkl' : ¬ (kk : Int) < la.length := by omega
            have hfull : ordN l j = some next := HFULL.out next (by rw [show la.length = kk by omega]; exact HO.out)
            have HNEW := Lib.hid (HNX.out next HZZ.out hfull (by omega))
            have hjm : j < ml.length := by rw [HRE.out.len]; exact hlt
            have e4 := Blk.frozen HM3.out j
            have c4 := HM3.out.cell hjm
            have hsub : (next : Int) - j = ((next - j : Nat) : Int) := by omega
            have HSUB := Lib.hid hsub
            generalize ml[j] = mj at c4
            clear hfull hsub hb
            go_wp2
            go_roundg j
            case measure => omega
            case rel => exact ⟨j, ml.set j (next - j), by go_num, rfl, by omega, HB3.out.setCell (p := ⟨w.heap.size + 1, j, none⟩) (by show w.heap.size ≤ w.heap.size + 1; omega) _, HX3.out.far (p := ⟨w.heap.size + 1, j, none⟩) (by show w.heap.size ≠ w.heap.size + 1; omega) _, by rw [HSUB.out]; exact HM3.out.set_ j (next - j), HNEW.out⟩
end Go.Proofs.YtgcbnndbeoekgaaDoor
