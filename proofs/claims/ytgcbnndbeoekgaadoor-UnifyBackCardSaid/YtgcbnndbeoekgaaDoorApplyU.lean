import Derived.Test.YtgcbnndbeoekgaaDoorPut15
import Derived.Deep.Slices
set_option linter.unusedSimpArgs false
set_option linter.unusedVariables false
/- unify.Apply -/
namespace Go.Proofs.YtgcbnndbeoekgaaDoor
open Go Go.RowKit Go.Maps

theorem binds_vals {w : World} {F : Nat → Prop} {A : Option Addr} {l : List ABind} (h : RowOf 2 EBind w F A l) : ∃ f : Nat → Value, ∀ i (hi : i < l.length), ∃ b off S c, A = some ⟨b, off, none⟩ ∧ F b ∧ f i = .slice S l[i].term.length c ∧ w.cell? ⟨b, off + i * 2, none⟩ = some (.int .i64 l[i].hole) ∧ w.cell? ⟨b, off + i * 2 + 1, none⟩ = some (f i) ∧ l[i].term.length ≤ c ∧ c ≤ maxLen ∧ RowOf 3 ETN w F S l[i].term := by
  obtain ⟨f, hf⟩ := Go.Deep.choose_lt (n := l.length) (p := fun i (v : Value) => ∀ hi : i < l.length, ∃ b off S c, A = some ⟨b, off, none⟩ ∧ F b ∧ v = .slice S l[i].term.length c ∧ w.cell? ⟨b, off + i * 2, none⟩ = some (.int .i64 l[i].hole) ∧ w.cell? ⟨b, off + i * 2 + 1, none⟩ = some v ∧ l[i].term.length ≤ c ∧ c ≤ maxLen ∧ RowOf 3 ETN w F S l[i].term) (fun i hi => by
    obtain ⟨b, off, S, c, e, hb, d0, d1, h1, h2, hr⟩ := bind_at h hi
    exact ⟨.slice S l[i].term.length c, fun _ => ⟨b, off, S, c, e, hb, rfl, d0, d1, h1, h2, hr⟩⟩)
  exact ⟨f, fun i hi => hf i hi hi⟩
def standsTo (l : List ABind) (f : Nat → Value) (i : Nat) : List (Int × Value) := (List.range i).map fun j => ((l.map ABind.hole).getD j 0, f j)
theorem standsTo_next {l : List ABind} {f : Nat → Value} {i : Nat} (h : i < l.length) : standsTo l f (i + 1) = standsTo l f i ++ [(l[i].hole, f i)] := by
  unfold standsTo
  rw [List.range_succ, List.map_append]
  simp [List.getD_eq_getElem?_getD, List.getElem?_map, List.getElem?_eq_getElem h]
theorem standsTo_mem {l : List ABind} {f : Nat → Value} {i : Nat} (hi : i ≤ l.length) {p : Int × Value} (hp : p ∈ standsTo l f i) : ∃ j, ∃ hj : j < l.length, j < i ∧ p = (l[j].hole, f j) := by
  unfold standsTo at hp
  obtain ⟨j, hj, rfl⟩ := List.mem_map.1 hp
  have hj := List.mem_range.1 hj
  refine ⟨j, by omega, hj, ?_⟩
  simp [List.getD_eq_getElem?_getD, List.getElem?_map, List.getElem?_eq_getElem (show j < l.length by omega)]
theorem standsTo_ne {l : List ABind} {f : Nat → Value} {i : Nat} (hi : i < l.length) (h : ∀ j (hj : j < i), (l[j]'(by omega)).hole < l[i].hole) : ∀ q ∈ standsTo l f i, q.1 ≠ l[i].hole := by
  intro q hq
  obtain ⟨j, hj, hji, rfl⟩ := standsTo_mem (by omega) hq
  have := h j hji
  show l[j].hole ≠ l[i].hole
  omega
theorem may_rise {l : List ABind} (h : MayP l) : ∀ i (hi : i < l.length) j (hj : j < i), (l[j]'(by omega)).hole < l[i].hole := fun i hi j hj => BindTo1.rise (i := i + 1) (fun k _ => h.1 k) i j hi (by omega) hj
theorem stands_look {l : List ABind} {bs : List (Nat × Fo)} {f : Nat → Value} (h : MayP l) (hb : Bnd l bs) {n : Nat} {Y : Fo} (hl : lookB bs n = some Y) : ∃ m, ∃ hm : m < l.length, l[m].term = Y.flat 0 ∧ lookM (.slice none 0 0) (standsTo l f l.length) (n : Int) = f m := by
  obtain ⟨m, hm, h1, h2, _⟩ := hb.at_ hl
  have hin : (l[m].hole, f m) ∈ standsTo l f l.length := by
    unfold standsTo
    refine List.mem_map.2 ⟨m, List.mem_range.2 hm, ?_⟩
    simp [List.getD_eq_getElem?_getD, List.getElem?_map, List.getElem?_eq_getElem hm]
  obtain ⟨p, hp, e1, e2⟩ := lookM_mem (z := .slice none 0 0) ⟨_, hin, h1⟩
  obtain ⟨j, hj, _, rfl⟩ := standsTo_mem (Nat.le_refl _) hp
  have e1 : l[j].hole = (n : Int) := e1
  have hjm : j = m := by
    rcases Nat.lt_trichotomy j m with h3 | h3 | h3
    · have := may_rise h m hm j h3; omega
    · exact h3
    · have := may_rise h j hj m h3; omega
  subst hjm
  exact ⟨j, hm, h2, e2⟩
theorem stands_none {l : List ABind} {bs : List (Nat × Fo)} {f : Nat → Value} (hb : Bnd l bs) {n : Nat} (hl : lookB bs n = none) : lookM (.slice none 0 0) (standsTo l f l.length) (n : Int) = .slice none 0 0 := by
  refine lookM_not fun p hp e => ?_
  obtain ⟨j, hj, _, rfl⟩ := standsTo_mem (Nat.le_refl _) hp
  exact hb.no hl _ (List.getElem_mem hj) e

set_option maxRecDepth 100000 in
set_option maxHeartbeats 8000000 in
theorem uapply_any (A2 : Option Addr) (c2 : Nat) (bd : List ABind) (A : Option Addr) (c : Nat) (l : List TN) (w : World) (F : Nat → Prop) (hF : ∀ b, F b → b < w.heap.size) (hr : RowOf 3 ETN w F A l) (hrb : RowOf 2 EBind w F A2 bd) (hlc : l.length ≤ c) (hc : c ≤ maxLen) (hlc2 : bd.length ≤ c2) (hc2 : c2 ≤ maxLen) (hlm : bd.length ≤ 1048576)
    (hz : ∀ t ∈ l, t.name.size ≤ 9223372036854775807) (hz2 : ∀ x ∈ bd, ∀ t ∈ x.term, t.name.size ≤ 9223372036854775807 ∧ InI t.var) :
    Calls Tryd.prog 19 #[.slice A2 bd.length c2, .agg #[.slice A l.length c]] w (TermRes w (applyE bd l) (applyL bd l)) := by
  have HMAY : Hid (∀ w', Below w.heap.size w w' → Calls Tryd.prog 32 #[.slice A2 bd.length c2] w' fun e w2 => e = .returned (.bool (mayB bd)) ∧ Below w'.heap.size w' w2) := Lib.hid (fun w' hb => umay_any A2 c2 bd w' F (fun b h => Nat.lt_of_lt_of_le (hF b h) hb.size) (hrb.keep EBind.stays (Keep.below hb hF) (fun _ h => h)) hlc2 hc2 hlm hz2)
  have HRI : Hid (∀ w', Below w.heap.size w w' → Calls Tryd.prog 9 #[.agg #[.slice A l.length c]] w' fun e w2 => e = .returned (.int .i64 (rightI l)) ∧ Below w'.heap.size w' w2) := Lib.hid (fun w' hb => uright_any A c l w' F (fun b h => Nat.lt_of_lt_of_le (hF b h) hb.size) (hr.keep ETN.stays (Keep.below hb hF) (fun _ h => h)) hlc hc hz)
  have HR := Lib.hid hr; have HRB := Lib.hid hrb
  have hcm := hc; have hcm2 := hc2
  unfold maxLen at hc hc2
  obtain ⟨mb, hmb⟩ : ∃ q, mayB bd = q := ⟨_, rfl⟩
  obtain ⟨ri, hri⟩ : ∃ q, rightI l = q := ⟨_, rfl⟩
  have HMB := Lib.hid hmb; have HRIE := Lib.hid hri
  rw [hmb] at HMAY
  rw [hri] at HRI
  clear hmb hri hr hrb hz hz2
  have hmm := @run_makeMap Tryd.prog
  have HMM := Lib.hid hmm
  clear hmm
  go_enter Tryd.func19, Tryd.ntmps19
  go_wp2_with fail
  refine (HMAY.out _ (((Below.refl _ _).alloc (Nat.le_refl _) _).alloc (by simp) _)).mono ?_
  rintro _ w2 ⟨rfl, hb2⟩
  have HB2 : Hid (Below w.heap.size w w2) := Lib.hid ((((Below.refl w.heap.size w).alloc (Nat.le_refl _) (.cells #[.slice A l.length c] 24)).alloc (by simp) (.cells #[.slice none 0 0] 24)).trans (hb2.mono (by simp; omega)))
  have HX2 := Lib.hid (((Blk.new w 24 #[.slice A l.length c]).alloc (.cells #[.slice none 0 0] 24)).below hb2 (by simp; omega))
  have HY2 : Hid (Blk w2 (w.heap.size + 1) 24 #[.slice none 0 0]) := Lib.hid ((Blk.new' (w := w.alloc (.cells #[.slice A l.length c] 24)) (by simp)).below hb2 (by simp))
  clear hb2
  cases mb
  · have hmay : ¬ MayP bd := fun h => by have := HMB.out; rw [mayB_yes h] at this; cases this
    have HE := Lib.hid (apply_not (l := l) hmay)
    have c0 := HY2.out.cell 0; have f0 := HY2.out.frozen 0; have hyl := HY2.out.lt
    simp at c0
    clear hmay
    go_wp2
    have hy3 := HY2.out.set_ 0 (.slice none 0 0)
    have c1 := hy3.cell 0
    simp at c1
    refine bodyPost_ret (v := .tuple #[.agg #[.slice none 0 0], .int .i64 2]) (by simp [results, Tryd.results19, go_sem, c1]) rfl ?_
    exact ⟨_, by rw [HE.out.1], HB2.out.setCell (p := ⟨w.heap.size + 1, 0, none⟩) (by show w.heap.size ≤ w.heap.size + 1; omega) _, by rw [HE.out.2]; exact IsRow.nil⟩
  have HMAYP : Hid (MayP bd) := Lib.hid (mayB_iff.1 HMB.out)
  have x0 := HX2.out.cell 0
  have hxl := HX2.out.lt
  simp at x0
  go_wp2_with fail
  clear x0 hxl
  refine (HRI.out _ HB2.out).mono ?_
  rintro _ w3 ⟨rfl, hb3⟩
  have HB3 := Lib.hid (HB2.out.trans (hb3.mono HB2.out.size))
  have HX3 := Lib.hid (HX2.out.below hb3 HX2.out.lt); have HY3 := Lib.hid (HY2.out.below hb3 HY2.out.lt)
  clear hb3 HB2 HX2 HY2
  by_cases hri0 : ri = 0
  case neg =>
    have HE := Lib.hid (apply_bad (l := l) HMAYP.out (by rw [HRIE.out]; exact hri0))
    have c0 := HY3.out.cell 0; have f0 := HY3.out.frozen 0; have hyl := HY3.out.lt
    simp at c0
    have e1 : (ri != 0) = true := by simp; exact hri0
    clear hri0
    go_wp2
    have hy3 := HY3.out.set_ 0 (.slice none 0 0)
    have c1 := hy3.cell 0
    simp at c1
    refine bodyPost_ret (v := .tuple #[.agg #[.slice none 0 0], .int .i64 ri]) (by simp [results, Tryd.results19, go_sem, c1]) rfl ?_
    exact ⟨_, by rw [HE.out.1, HRIE.out], HB3.out.setCell (p := ⟨w.heap.size + 1, 0, none⟩) (by show w.heap.size ≤ w.heap.size + 1; omega) _, by rw [HE.out.2]; exact IsRow.nil⟩
  case pos =>
  subst hri0
  have HBND := Lib.hid (bsOf_ok HMAYP.out)
  have HTR := Lib.hid (treeOf_ok HRIE.out)
  have HGN : Hid (∀ t ∈ l, NodeR t) := Lib.hid (rightI_zero HRIE.out).2.1
  have hll : l.length ≤ 256 := (rightI_zero HRIE.out).1
  obtain ⟨bs, hbs⟩ : ∃ bs, bsOf bd = bs := ⟨_, rfl⟩
  have HBS := Lib.hid hbs
  rw [hbs] at HBND
  clear hbs
  obtain ⟨f, hf⟩ := binds_vals HRB.out
  have HFV := Lib.hid hf
  clear hf
  have hmm := HMM.out
  obtain ⟨bm, hbm⟩ : ∃ q, w3.heap.size = q := ⟨_, rfl⟩
  obtain ⟨w4, hw4⟩ : ∃ q : World, w3.alloc (.map #[] 0) = q := ⟨_, rfl⟩
  have hb4 : Below w3.heap.size w3 w4 := by rw [← hw4]; exact (Below.refl _ _).alloc (Nat.le_refl _) _
  have HB4 := Lib.hid (HB3.out.trans (hb4.mono HB3.out.size))
  have HX4 := Lib.hid (HX3.out.below hb4 HX3.out.lt); have HY4 := Lib.hid (HY3.out.below hb4 HY3.out.lt)
  have HM4 : Hid (w4.ownsMap Tryd.prog 3 heldM bm 0 (.map [])) := Lib.hid (by rw [← hw4, ← hbm]; exact World.ownsMap_made w3 Tryd.prog 3 heldM)
  have HBM : Hid (w.heap.size + 1 < bm) := Lib.hid (by have := HY3.out.lt; omega)
  go_upto_region 8 with fail
  (try rw [hbm])
  (try rw [hw4])
  clear hmm HMM hb4 hw4 hbm HB3 HX3 HY3
  go_loopg [26] bd.length (fun g s26 wx => ∃ (i : Nat) (D : DataW Value), s26 = .int .i64 i ∧ g = bd.length - i ∧ i ≤ bd.length ∧ Below w.heap.size w wx ∧ Blk wx w.heap.size 24 #[.slice A l.length c] ∧ Blk wx (w.heap.size + 1) 24 #[.slice none 0 0] ∧ wx.ownsMap Tryd.prog 3 heldM bm i D ∧ MapV D (standsTo bd f i))
  case atStart => exact ⟨0, _, rfl, rfl, Nat.zero_le _, HB4.out, HX4.out, HY4.out, HM4.out, MapV.start⟩
  case round =>
    clear HB4 HX4 HY4 HM4
    obtain ⟨i, D, rfl, rfl, hi, hb, hx, hy, hown, hmv⟩ := hrel
    have HB := Lib.hid hb; have HX := Lib.hid hx; have HY := Lib.hid hy; have HO := Lib.hid hown; have HMV := Lib.hid hmv
    have i0 : (0 : Int) ≤ i := by omega
    clear hx hy hown hmv
    by_cases hlt : i < bd.length
    · have hlt' : (i : Int) < bd.length := by omega
      obtain ⟨b, off, S, k, rfl, hbF, hfi, d0, d1, _, _, _⟩ := HFV.out i hlt
      have hbw := hF b hbF
      have d0 := (hb.cell (p := ⟨b, off + i * 2, none⟩) hbw).trans d0
      have d1 := (hb.cell (p := ⟨b, off + i * 2 + 1, none⟩) hbw).trans d1
      have HNE : Hid (MapV (D.put (kM bd[i].hole) (.held (f i))) (standsTo bd f (i + 1))) := Lib.hid (by
        rw [standsTo_next hlt]
        exact HMV.out.put (bd[i].hole, f i) (standsTo_ne hlt (may_rise HMAYP.out i hlt)))
      have hin : InI bd[i].hole := ⟨by have := (HMAYP.out.1 i hlt).1; omega, by have := (HMAYP.out.1 i hlt).2.1; omega⟩
      rw [hfi] at d1 HNE
      obtain ⟨h, hh⟩ : ∃ h, bd[i].hole = h := ⟨_, rfl⟩
      obtain ⟨n, hn⟩ : ∃ n, bd[i].term.length = n := ⟨_, rfl⟩
      rw [hh] at d0 HNE hin
      rw [hn] at d1 HNE
      clear hfi hh hn hb
      have HO2 : Hid ((wr.alloc (.cells #[.int .i64 h, .slice S n k] 71)).ownsMap Tryd.prog 3 heldM bm i D) := Lib.hid (HO.out.alloc _)
      go_wp2_with (at_mapUpdate; refine wpList_mapUpdate_own _ rfl _ _ _ 77 rfl 3 22 lawM Tryd.underlying77 heldM bm i D rfl HO2.out (by unfold maxLen; omega) _ _ _ rfl rfl (keyM hin) _ [] rfl ?_)
      intro w5 hown5 hg5
      have HB5 : Hid (Below w.heap.size w w5) := Lib.hid ((HB.out.alloc HB.out.size (.cells #[.int .i64 h, .slice S n k] 71)).grown hg5 (by have := HB.out.size; simp; omega) (fun k e => by cases e; have := HBM.out; omega))
      have HX5 := Lib.hid ((HX.out.alloc (.cells #[.int .i64 h, .slice S n k] 71)).grown hg5 (fun e => by injection e with e; have := HBM.out; omega))
      have HY5 := Lib.hid ((HY.out.alloc (.cells #[.int .i64 h, .slice S n k] 71)).grown hg5 (fun e => by injection e with e; have := HBM.out; omega))
      have HO5 := Lib.hid hown5
      clear hown5 hg5 d0 d1
      go_wp2
      go_roundg (bd.length - (i + 1))
      case measure => omega
      case rel => exact ⟨i + 1, _, by go_num, rfl, by omega, HB5.out, HX5.out, HY5.out, HO5.out, HNE.out⟩
    · have hlt' : ¬ (i : Int) < bd.length := by omega
      have HMV2 : Hid (MapV D (standsTo bd f bd.length)) := Lib.hid (by have := HMV.out; rw [show i = bd.length by omega] at this; exact this)
      have x0 := HX.out.cell 0
      have hxl := HX.out.lt
      simp at x0
      clear hb
      go_upto_region 14 with fail
      clear x0 hxl
      go_loopg [10, 40] l.length (fun g s10 s40 wx => ∃ j : Nat, s40 = .int .i64 j ∧ s10 = .int .i64 (sumTo (lookB bs) l j : Nat) ∧ g = l.length - j ∧ j ≤ l.length ∧ Below w.heap.size w wx ∧ Blk wx w.heap.size 24 #[.slice A l.length c] ∧ Blk wx (w.heap.size + 1) 24 #[.slice none 0 0] ∧ wx.ownsMap Tryd.prog 3 heldM bm i D)
      case atStart => exact ⟨0, rfl, rfl, rfl, Nat.zero_le _, HB.out, HX.out, HY.out, HO.out⟩
      case round =>
        clear HB HX HY HO
        obtain ⟨j, rfl, rfl, rfl, hj, hb, hx, hy, hown⟩ := hrel
        have HB := Lib.hid hb; have HX := Lib.hid hx; have HY := Lib.hid hy; have HO := Lib.hid hown
        have hsm := sumTo_le HBND.out l j
        have j0 : (0 : Int) ≤ j := by omega
        clear hx hy hown
        by_cases hjl : j < l.length
        · have hjl' : (j : Int) < l.length := by omega
          obtain ⟨b, off, S, k, rfl, hbF, d0, d1, d2, _, _, _⟩ := nodes_at HR.out hjl
          have hbw := hF b hbF
          have d0 := (hb.cell (p := ⟨b, off + j * 3, none⟩) hbw).trans d0
          have d1 := (hb.cell (p := ⟨b, off + j * 3 + 1, none⟩) hbw).trans d1
          have d2 := (hb.cell (p := ⟨b, off + j * 3 + 2, none⟩) hbw).trans d2
          obtain ⟨n, hn⟩ := node_nat (HGN.out _ (List.getElem_mem hjl))
          have hin : InI (n : Int) := by
            have h1 := HGN.out _ (List.getElem_mem hjl)
            rw [← hn]
            rcases h1 with h1 | h1
            · exact ⟨by have := h1.1; omega, by have := h1.2.1; omega⟩
            · exact ⟨by rw [h1.1]; omega, by rw [h1.1]; omega⟩
          have HSN := Lib.hid (sumTo_next (σ := lookB bs) hjl)
          have HWN := Lib.hid (fun T (h : lookB bs n = some T) => wgt_some (t := l[j]) hn h)
          have HWZ := Lib.hid (fun (h : lookB bs n = none) => wgt_none (t := l[j]) hn h)
          rw [hn] at d0
          obtain ⟨y, hy⟩ : ∃ y, l[j].name = y := ⟨_, rfl⟩
          obtain ⟨nl, hnl⟩ : ∃ y, l[j].args.length = y := ⟨_, rfl⟩
          rw [hy] at d1
          rw [hnl] at d2
          have hlk := look_run (z := .slice none 0 0) (HO.out.alloc (.cells #[.int .i64 n, .string y, .slice S nl k] 58)) HMV2.out Tryd.underlying77 (zero_nodes _) hin
          obtain ⟨sm, hsmE⟩ : ∃ s, sumTo (lookB bs) l j = s := ⟨_, rfl⟩
          have HSM := Lib.hid hsmE
          rw [hsmE] at hsm ⊢
          clear hn hb hsmE hy hnl hin
          have sm0 : (0 : Int) ≤ sm := by omega
          have sm1 : (sm : Int) ≤ 65536 := by omega
          cases hlook : lookB bs n with
          | some Y =>
            obtain ⟨m, hm, hm1, hm2⟩ := stands_look (f := f) HMAYP.out HBND.out hlook
            obtain ⟨_, y2, _, y4, _⟩ := HBND.out.some_ hlook
            obtain ⟨b5, off5, S4, k4, e5, e8, hfm, e6, e7, e9⟩ := HFV.out m hm
            clear e5 e6 e7 e8 e9
            rw [hm2, hfm, hm1, Fo.flat_len] at hlk
            have HWT := Lib.hid (HWN.out Y hlook)
            have hy1 := Fo.one_size y2
            obtain ⟨yl, hyl⟩ : ∃ yl, Y.size = yl := ⟨_, rfl⟩
            have HYL := Lib.hid hyl
            rw [hyl] at hlk y4 hy1
            have HNEW : Hid (sumTo (lookB bs) l (j + 1) = sm + yl) := Lib.hid (by rw [HSN.out, HSM.out, HWT.out, HYL.out])
            clear hlook hm1 hm2 hfm y2 hyl
            by_cases hy9 : yl = 1
            · subst hy9
              go_wp2
              go_roundg (l.length - (j + 1))
              case measure => omega
              case rel => exact ⟨j + 1, by go_num, by rw [HNEW.out]; go_num, rfl, by omega, HB.out.alloc HB.out.size _, HX.out.alloc _, HY.out.alloc _, HO.out.alloc _⟩
            · have hy8 : 1 < yl := by omega
              have hy7 : (1 : Int) < yl := by omega
              have hy6 : (1 : Int) ≤ yl := by omega
              have hmx : max (1 : Int) (yl : Int) = yl := by omega
              clear hy9
              go_wp2
              go_roundg (l.length - (j + 1))
              case measure => omega
              case rel => exact ⟨j + 1, by go_num, by rw [HNEW.out]; go_num, rfl, by omega, HB.out.alloc HB.out.size _, HX.out.alloc _, HY.out.alloc _, HO.out.alloc _⟩
          | none =>
            rw [stands_none HBND.out hlook] at hlk
            have HNEW : Hid (sumTo (lookB bs) l (j + 1) = sm + 1) := Lib.hid (by rw [HSN.out, HSM.out, HWZ.out hlook])
            clear hlook
            go_wp2
            go_roundg (l.length - (j + 1))
            case measure => omega
            case rel => exact ⟨j + 1, by go_num, by rw [HNEW.out]; go_num, rfl, by omega, HB.out.alloc HB.out.size _, HX.out.alloc _, HY.out.alloc _, HO.out.alloc _⟩
        · have hjl' : ¬ (j : Int) < l.length := by omega
          have hsz : sumTo (lookB bs) l j = (subOf bd l).size := by
            rw [sumTo_end hjl, subOf_size HMAYP.out HRIE.out, HBS.out]
          rw [hsz] at hsm ⊢
          clear hsz
          by_cases h3 : 256 < (subOf bd l).size
          · have HE := Lib.hid (apply_long (l := l) HMAYP.out HRIE.out h3)
            have h3' : (256 : Int) < (subOf bd l).size := by omega
            have c0 := HY.out.cell 0; have f0 := HY.out.frozen 0; have hyl := HY.out.lt
            simp at c0
            clear hb
            go_wp2
            have hy3 := HY.out.set_ 0 (.slice none 0 0)
            have c1 := hy3.cell 0
            simp at c1
            refine bodyPost_ret (v := .tuple #[.agg #[.slice none 0 0], .int .i64 3]) (by simp [results, Tryd.results19, go_sem, c1]) rfl ?_
            exact ⟨_, by rw [HE.out.1], HB.out.setCell (p := ⟨w.heap.size + 1, 0, none⟩) (by show w.heap.size ≤ w.heap.size + 1; omega) _, by rw [HE.out.2]; exact IsRow.nil⟩
          · have HE := Lib.hid (apply_ok (l := l) HMAYP.out HRIE.out h3)
            have h3' : ¬ (256 : Int) < (subOf bd l).size := by omega
            have HPUT : Hid (Calls Tryd.prog 33 #[.slice none 0 0, .slice A l.length c, .int .i64 ((0 : Nat) : Int), .map (some bm)] wr (PutPost wr wr.heap.size (.slice none 0 0) [] ((subOf bd l).flat 0) (fun _ => False))) := Lib.hid (by
              obtain ⟨t1, t2, t3, t4⟩ := HTR.out
              have hso : subOf bd l = (treeOf l).sub (lookB bs) := by unfold subOf; rw [HBS.out]
              have hFw : ∀ b, (fun b => b < w.heap.size) b → b < wr.heap.size := fun b h => Nat.lt_of_lt_of_le h HB.out.size
              have hl1 : RowOf 3 ETN wr (fun b => b < w.heap.size) A l := HR.out.keep ETN.stays (Keep.below HB.out hF) hF
              have hlt : ∀ m (hm : m < bd.length), ∃ S k, f m = .slice S bd[m].term.length k ∧ bd[m].term.length ≤ k ∧ k ≤ maxLen ∧ RowOf 3 ETN wr (fun b => b < w.heap.size) S bd[m].term := fun m hm => by
                obtain ⟨_, _, S, k, _, _, e, _, _, h1, h2, h3⟩ := HFV.out m hm
                exact ⟨S, k, e, h1, h2, h3.keep ETN.stays (Keep.below HB.out hF) hF⟩
              have hst : Stands wr wr.heap.size (fun b => b < w.heap.size) (.map (some bm)) (lookB bs) (fun n => lookM (.slice none 0 0) (standsTo bd f bd.length) (n : Int)) := by
                refine ⟨HBND.out.ones, fun w' hb' n hn => ?_, fun n hn => stands_none HBND.out hn, fun n Y hn => ?_⟩
                · exact look_run (z := .slice none 0 0) (HO.out.kept (row := none) ⟨hb'.os, hb'.tape, hb'.output, hb'.size, fun k hk _ => hb'.block k hk⟩ (by simp)) HMV2.out Tryd.underlying77 (zero_nodes _) ⟨by omega, by omega⟩
                · obtain ⟨m, hm, hm1, hm2⟩ := stands_look (f := f) HMAYP.out HBND.out hn
                  obtain ⟨_, y2, y3, y4, _⟩ := HBND.out.some_ hn
                  obtain ⟨S, k, e, h1, h2, h3⟩ := hlt m hm
                  rw [hm1] at e h1 h3
                  obtain ⟨b, off, rfl, _⟩ := h3.1 (by intro e0; have := Fo.flat_len Y 0; rw [e0] at this; have := Fo.one_size y2; simp at *; omega)
                  exact ⟨b, off, k, by rw [hm2, e], h3, h1, h2, y2, y3, y4⟩
              have hst0 : Stands wr wr.heap.size (fun b => b < w.heap.size) (.map none) (fun _ => none) (fun _ => .slice none 0 0) :=
                ⟨⟨rfl, fun n T e => by cases e⟩, fun w' _ n hn0 => by have h := Maps.look_nil (P := Tryd.prog) (w := w') false lawM Tryd.underlying77 (zero_nodes w') (keyM (id := (n : Int)) ⟨by omega, by omega⟩); simpa using h, fun n _ => rfl, fun n Y e => by cases e⟩
              have hput := put15_step wr wr.heap.size _ hFw (Nat.le_refl _) (.map (some bm)) ⟨_, rfl⟩ (lookB bs) _ hst (fun n Y _ => put15_step wr wr.heap.size _ hFw (Nat.le_refl _) (.map none) ⟨_, rfl⟩ (fun _ => none) _ hst0 (fun _ _ e => by cases e) Y.size) (treeOf l).size A c l (treeOf l) 0 (.slice none 0 0) [] (fun _ => False) wr (Nat.le_refl _) t1 t2 (by
                have h := Seg.whole (treeOf l)
                rw [← t3] at h; exact h) hlc hcm hl1 (Below.refl _ _) (OwnX.nil _ _) (fun b h => h.elim) (by rw [← hso]; simp; omega)
              rw [← hso] at hput
              exact hput)
            have x0 := HX.out.cell 0
            have hxl := HX.out.lt
            simp at x0
            clear hb
            go_wp2_with fail
            refine HPUT.out.mono ?_
            rintro _ w6 ⟨A6, c6, rfl, p1, p2, _⟩
            have HB6 : Hid (Below wr.heap.size wr w6) := Lib.hid ⟨p2.os, p2.tape, p2.output, p2.size, fun k hk => p2.block k hk (by simp [Value.ownBlock])⟩
            have HY6 := Lib.hid (HY.out.below HB6.out HY.out.lt)
            have HP1 := Lib.hid p1
            have c0 := HY6.out.cell 0; have f0 := HY6.out.frozen 0; have hyl := HY6.out.lt
            simp at c0
            clear p1 p2 x0 hxl
            go_wp2
            have hy3 := HY6.out.set_ 0 (.slice A6 (([] : List TN).length + ((subOf bd l).flat 0).length) c6)
            have c1 := hy3.cell 0
            simp at c1
            have hrow := HP1.out.nodes.isRow (F := fun b => wr.heap.size ≤ b ∧ b < w6.heap.size) (fun b h1 h2 => ⟨h1, h2⟩)
            simp only [List.nil_append, List.length_nil, Nat.zero_add] at hrow c1
            refine bodyPost_ret (v := .tuple #[.agg #[.slice A6 ((subOf bd l).flat 0).length c6], .int .i64 0]) (by simp [results, Tryd.results19, go_sem, c1]) rfl ?_
            refine ⟨_, by rw [HE.out.1], (HB.out.trans (HB6.out.mono HB.out.size)).setCell (p := ⟨w.heap.size + 1, 0, none⟩) (by show w.heap.size ≤ w.heap.size + 1; omega) _, ?_⟩
            rw [HE.out.2]
            exact hrow.keep ETN.stays (keep_far (p := ⟨w.heap.size + 1, 0, none⟩) (fun b h => by have := HY.out.lt; show b ≠ w.heap.size + 1; omega) _) (fun b h => by simpa using h.2)
end Go.Proofs.YtgcbnndbeoekgaaDoor
