import Derived.Test.YtgcbnndbeoekgaaDoorAddI
import Derived.Test.YtgcbnndbeoekgaaDoorAddS
import Derived.Deep.Slices
set_option linter.unusedSimpArgs false
set_option linter.unusedVariables false
/- unify.Add: two more terms meet -/
namespace Go.Proofs.YtgcbnndbeoekgaaDoor
open Go Go.RowKit Go.Maps

theorem AddI.start (w : World) : AddI w.heap.size (w.heap.size + 1) w.heap.size 0 w ((w.alloc (.map #[] 0)).alloc (.cells #[.slice none 0 0, .map (some w.heap.size), .slice none 0 0] 86)) (.slice none 0 0) (.slice none 0 0) [] [] [] webNil (fun i => i) (fun _ => none) (fun _ => 0) [] := by
  refine ⟨((Below.refl _ _).alloc (Nat.le_refl _) _).alloc (by simp) _, Nat.le_refl _, ⟨Blk.new' (by simp), ⟨World.ownsRow_nil _ _ _ _, fun x hx => (by cases hx)⟩, ⟨_, (World.ownsMap_made w Tryd.prog 3 heldM).alloc _, MapV.start⟩, World.ownsRow_nil _ _ _ _, Nat.le_succ _, Nat.le_refl _⟩, pw_nil, ust_nil _, fun p hp => (by cases hp), fun x hx => (by cases hx), ⟨Nat.le_refl _, Nat.le_refl _⟩, fun q hq => (by cases hq)⟩
theorem eqsB_take {bs : List (Nat × Fo)} {j : Nat} (hj : j < bs.length) : eqsB (bs.take (j + 1)) = eqsB (bs.take j) ++ [(.hole bs[j].1 .nil, bs[j].2)] := by
  rw [List.take_succ_eq_append_getElem hj]
  unfold eqsB
  rw [List.map_append]; rfl
theorem clash_not {bs : List (Nat × Fo)} (h : NF bs) {j : Nat} (hj : j < bs.length) : ¬ Comes (eqsB (bs.take j) ++ [(.hole bs[j].1 .nil, bs[j].2)]) .clash := fun hc => by
  rw [← eqsB_take hj] at hc
  obtain ⟨θ, hθ⟩ := bound_sat h (j + 1)
  exact hc θ hθ

theorem WebAt.not_wb {w : World} {B p mb : Nat} {lv tv : Value} {l : List PN} {hm td : List (Nat × Nat)} (h : WebAt w B p lv mb tv l hm td) {g : Nat} {t : TypeId} {cs : Array Value} (hb : Blk w g t cs) (h1 : t ≠ 86) (h2 : t ≠ 103) (h3 : t ≠ 98) : ¬ Wb p mb lv tv g := by
  obtain ⟨D, hD, _⟩ := h.holes
  rintro (e | e | e | e)
  · exact blk_ne hb h.blk h1 e
  · exact map_ne_blk hD hb e.symm
  · exact own_ne_blkX h.nodes.row hb h2 e
  · exact own_ne_blkX h.todo hb h3 e
theorem bind_bs {w : World} {F : Nat → Prop} {A : Option Addr} {bd : List ABind} {bs : List (Nat × Fo)} (h : RowOf 2 EBind w F A bd) (he : bd = bs.map bindOf) {j : Nat} (hj : j < bs.length) :
    ∃ b off S c, A = some ⟨b, off, none⟩ ∧ F b ∧ w.cell? ⟨b, off + j * 2, none⟩ = some (.int .i64 bs[j].1) ∧ w.cell? ⟨b, off + j * 2 + 1, none⟩ = some (.slice S (bs[j].2.flat 0).length c) ∧ (bs[j].2.flat 0).length ≤ c ∧ c ≤ maxLen ∧ RowOf 3 ETN w F S (bs[j].2.flat 0) := by
  subst he
  have := bind_at h (i := j) (by simpa using hj)
  simpa [bindOf] using this
theorem hole_le {bd : List ABind} {bs : List (Nat × Fo)} (h : MayP bd) (he : bd = bs.map bindOf) {j : Nat} (hj : j < bs.length) : bs[j].1 ≤ 2147483647 := by
  have h1 := (h.1 j (by rw [he]; simpa using hj)).2.1
  subst he
  simp only [List.getElem_map, bindOf] at h1
  omega

set_option maxRecDepth 100000 in
set_option maxHeartbeats 16000000 in
theorem uadd_any (Ab : Option Addr) (cb : Nat) (bd : List ABind) (A1 : Option Addr) (c1 : Nat) (l1 : List TN) (A2 : Option Addr) (c2 : Nat) (l2 : List TN) (w : World) (F : Nat → Prop) (hF : ∀ b, F b → b < w.heap.size) (hrb : RowOf 2 EBind w F Ab bd) (hr1 : RowOf 3 ETN w F A1 l1) (hr2 : RowOf 3 ETN w F A2 l2)
    (hlb : bd.length ≤ cb) (hcb : cb ≤ maxLen) (hl1 : l1.length ≤ c1) (hc1 : c1 ≤ maxLen) (hl2 : l2.length ≤ c2) (hc2 : c2 ≤ maxLen) (hlm : bd.length ≤ 1048576)
    (hz1 : ∀ t ∈ l1, t.name.size ≤ 9223372036854775807) (hz2 : ∀ t ∈ l2, t.name.size ≤ 9223372036854775807) (hzb : ∀ x ∈ bd, ∀ t ∈ x.term, t.name.size ≤ 9223372036854775807 ∧ InI t.var) :
    Calls Tryd.prog 22 #[.slice Ab bd.length cb, .agg #[.slice A1 l1.length c1], .agg #[.slice A2 l2.length c2]] w (BoundRes w (AddSays bd l1 l2)) := by
  have HMAY : Hid (∀ w', Below w.heap.size w w' → Calls Tryd.prog 32 #[.slice Ab bd.length cb] w' fun e w2 => e = .returned (.bool (mayB bd)) ∧ Below w'.heap.size w' w2) := Lib.hid (fun w' hb => umay_any Ab cb bd w' F (fun b h => Nat.lt_of_lt_of_le (hF b h) hb.size) (hrb.keep EBind.stays (Keep.below hb hF) (fun _ h => h)) hlb hcb hlm hzb)
  have HRI1 : Hid (∀ w', Below w.heap.size w w' → Calls Tryd.prog 9 #[.agg #[.slice A1 l1.length c1]] w' fun e w2 => e = .returned (.int .i64 (rightI l1)) ∧ Below w'.heap.size w' w2) := Lib.hid (fun w' hb => uright_any A1 c1 l1 w' F (fun b h => Nat.lt_of_lt_of_le (hF b h) hb.size) (hr1.keep ETN.stays (Keep.below hb hF) (fun _ h => h)) hl1 hc1 hz1)
  have HRI2 : Hid (∀ w', Below w.heap.size w w' → Calls Tryd.prog 9 #[.agg #[.slice A2 l2.length c2]] w' fun e w2 => e = .returned (.int .i64 (rightI l2)) ∧ Below w'.heap.size w' w2) := Lib.hid (fun w' hb => uright_any A2 c2 l2 w' F (fun b h => Nat.lt_of_lt_of_le (hF b h) hb.size) (hr2.keep ETN.stays (Keep.below hb hF) (fun _ h => h)) hl2 hc2 hz2)
  have HR1 := Lib.hid hr1; have HR2 := Lib.hid hr2; have HRB := Lib.hid hrb
  have HCM : Hid (cb ≤ maxLen ∧ c1 ≤ maxLen ∧ c2 ≤ maxLen) := Lib.hid ⟨hcb, hc1, hc2⟩
  have HLL : Hid (bd.length ≤ cb ∧ l1.length ≤ c1 ∧ l2.length ≤ c2) := Lib.hid ⟨hlb, hl1, hl2⟩
  unfold maxLen at hcb hc1 hc2
  obtain ⟨mb, hmb⟩ : ∃ q, mayB bd = q := ⟨_, rfl⟩
  obtain ⟨ri1, hri1⟩ : ∃ q, rightI l1 = q := ⟨_, rfl⟩
  obtain ⟨ri2, hri2⟩ : ∃ q, rightI l2 = q := ⟨_, rfl⟩
  obtain ⟨m1, hm1⟩ : ∃ q, l1.length = q := ⟨_, rfl⟩
  obtain ⟨m2, hm2⟩ : ∃ q, l2.length = q := ⟨_, rfl⟩
  obtain ⟨nb, hnb⟩ : ∃ q, bd.length = q := ⟨_, rfl⟩
  have HMB := Lib.hid hmb; have HRE1 := Lib.hid hri1; have HRE2 := Lib.hid hri2
  have HM1 := Lib.hid hm1; have HM2 := Lib.hid hm2; have HNB := Lib.hid hnb
  rw [hmb] at HMAY
  rw [hri1] at HRI1
  rw [hri2] at HRI2
  rw [hm1] at HRI1 hl1
  rw [hm2] at HRI2 hl2
  rw [hnb] at HMAY hlb hlm
  rw [hm1, hm2, hnb]
  have hmm := @run_makeMap Tryd.prog
  have HMM := Lib.hid hmm
  clear hmm hmb hri1 hri2 hr1 hr2 hrb hz1 hz2 hzb hm1 hm2 hnb
  go_enter Tryd.func22, Tryd.ntmps22
  go_wp2_with fail
  refine (HMAY.out _ (((Below.refl _ _).alloc (Nat.le_refl _) _).alloc (by simp) _)).mono ?_
  rintro _ w2 ⟨rfl, hb2⟩
  have HB2 : Hid (Below w.heap.size w w2) := Lib.hid ((((Below.refl w.heap.size w).alloc (Nat.le_refl _) (.cells #[.slice A1 m1 c1] 24)).alloc (by simp) (.cells #[.slice A2 m2 c2] 24)).trans (hb2.mono (by simp; omega)))
  have HX2 : Hid (Blk w2 w.heap.size 24 #[.slice A1 m1 c1]) := Lib.hid (((Blk.new w 24 #[.slice A1 m1 c1]).alloc (.cells #[.slice A2 m2 c2] 24)).below hb2 (by simp; omega))
  have HY2 : Hid (Blk w2 (w.heap.size + 1) 24 #[.slice A2 m2 c2]) := Lib.hid ((Blk.new' (w := w.alloc (.cells #[.slice A1 m1 c1] 24)) (by simp)).below hb2 (by simp))
  clear hb2
  cases mb
  · have hmay : ¬ MayP bd := fun h => by have := HMB.out; rw [mayB_yes h] at this; cases this
    have HE : Hid (AddSays bd l1 l2 2 []) := Lib.hid (.inl ⟨hmay, rfl, rfl⟩)
    clear hmay
    go_wp2
    refine bodyPost_ret (v := .tuple #[.slice none 0 0, .int .i64 2]) (by simp [results, Tryd.results22, go_sem]) rfl ?_
    exact .none HE.out HB2.out
  have HMAYP : Hid (MayP bd) := Lib.hid (mayB_iff.1 HMB.out)
  have x0 := HX2.out.cell 0; have y0 := HY2.out.cell 0
  have hxl := HX2.out.lt; have hyl := HY2.out.lt
  simp at x0 y0
  go_upto_region 4 with fail
  clear x0 y0 hxl hyl
  obtain ⟨q3, hq3⟩ : ∃ q, w2.heap.size = q := ⟨_, rfl⟩
  have HQ3 : Hid (w.heap.size + 1 < q3) := Lib.hid (by rw [← hq3]; exact HY2.out.lt)
  obtain ⟨w3, hw3⟩ : ∃ q : World, w2.alloc (.cells #[.slice A1 m1 c1, .slice A2 m2 c2] 24) = q := ⟨_, rfl⟩
  have HB3 : Hid (Below w.heap.size w w3) := Lib.hid (by rw [← hw3]; exact HB2.out.alloc HB2.out.size _)
  have HX3 : Hid (Blk w3 w.heap.size 24 #[.slice A1 m1 c1]) := Lib.hid (by rw [← hw3]; exact HX2.out.alloc _)
  have HY3 : Hid (Blk w3 (w.heap.size + 1) 24 #[.slice A2 m2 c2]) := Lib.hid (by rw [← hw3]; exact HY2.out.alloc _)
  have HZ3 : Hid (Blk w3 q3 24 #[.slice A1 m1 c1, .slice A2 m2 c2]) := Lib.hid (by rw [← hw3]; exact Blk.new' hq3.symm)
  (try rw [hq3])
  (try rw [hw3])
  clear hq3 hw3 HB2 HX2 HY2
  go_loopg [21] 2 (fun g s21 wx => ∃ (i : Nat), s21 = .int .i64 i ∧ g = 2 - i ∧ i ≤ 2 ∧ Below w.heap.size w wx ∧ Blk wx w.heap.size 24 #[.slice A1 m1 c1] ∧ Blk wx (w.heap.size + 1) 24 #[.slice A2 m2 c2] ∧ Blk wx q3 24 #[.slice A1 m1 c1, .slice A2 m2 c2] ∧ (0 < i → ri1 = 0) ∧ (1 < i → ri2 = 0))
  case atStart => exact ⟨0, rfl, rfl, Nat.zero_le _, HB3.out, HX3.out, HY3.out, HZ3.out, fun h => absurd h (by omega), fun h => absurd h (by omega)⟩
  case round =>
    clear HB3 HX3 HY3 HZ3
    obtain ⟨i, rfl, rfl, hi, hb, hx, hy, hz, h1, h2⟩ := hrel
    have HB := Lib.hid hb; have HX := Lib.hid hx; have HY := Lib.hid hy; have HZ := Lib.hid hz; have HH1 := Lib.hid h1; have HH2 := Lib.hid h2
    clear hb hx hy hz h1 h2
    have hi3 : i = 0 ∨ i = 1 ∨ i = 2 := by omega
    clear hi
    rcases hi3 with rfl | rfl | rfl
    · have z0 := HZ.out.cell 0
      have hzl := HZ.out.lt
      simp at z0
      go_wp2_with fail
      clear z0 hzl
      refine (HRI1.out _ (HB.out.alloc HB.out.size _)).mono ?_
      rintro _ w5 ⟨rfl, hb5⟩
      have HB5 := Lib.hid ((HB.out.alloc HB.out.size (.cells #[.slice A1 m1 c1] 24)).trans (hb5.mono (by have := HB.out.size; simp; omega)))
      have HX5 := Lib.hid ((HX.out.alloc (.cells #[.slice A1 m1 c1] 24)).below hb5 (by have := HX.out.lt; simp; omega))
      have HY5 := Lib.hid ((HY.out.alloc (.cells #[.slice A1 m1 c1] 24)).below hb5 (by have := HY.out.lt; simp; omega))
      have HZ5 := Lib.hid ((HZ.out.alloc (.cells #[.slice A1 m1 c1] 24)).below hb5 (by have := HZ.out.lt; simp; omega))
      clear hb5 HB HX HY HZ
      by_cases hri0 : ri1 = 0
      case neg =>
        have e1 : (ri1 != 0) = true := by simp; exact hri0
        have HE : Hid (AddSays bd l1 l2 ri1 []) := Lib.hid (.inr (.inl ⟨HMAYP.out, fun h => hri0 (HRE1.out.symm.trans h), HRE1.out.symm, rfl⟩))
        clear hri0
        go_wp2
        refine bodyPost_ret (v := .tuple #[.slice none 0 0, .int .i64 ri1]) (by simp [results, Tryd.results22, go_sem]) rfl ?_
        exact .none HE.out HB5.out
      case pos =>
      subst hri0
      go_wp2
      go_roundg 1
      case measure => omega
      case rel => exact ⟨0 + 1, by go_num, rfl, by omega, HB5.out, HX5.out, HY5.out, HZ5.out, by intro _; first | trivial | rfl, fun h => absurd h (by omega)⟩
    · have z0 := HZ.out.cell 1
      have hzl := HZ.out.lt
      simp at z0
      go_wp2_with fail
      clear z0 hzl
      refine (HRI2.out _ (HB.out.alloc HB.out.size _)).mono ?_
      rintro _ w5 ⟨rfl, hb5⟩
      have HB5 := Lib.hid ((HB.out.alloc HB.out.size (.cells #[.slice A2 m2 c2] 24)).trans (hb5.mono (by have := HB.out.size; simp; omega)))
      have HX5 := Lib.hid ((HX.out.alloc (.cells #[.slice A2 m2 c2] 24)).below hb5 (by have := HX.out.lt; simp; omega))
      have HY5 := Lib.hid ((HY.out.alloc (.cells #[.slice A2 m2 c2] 24)).below hb5 (by have := HY.out.lt; simp; omega))
      have HZ5 := Lib.hid ((HZ.out.alloc (.cells #[.slice A2 m2 c2] 24)).below hb5 (by have := HZ.out.lt; simp; omega))
      clear hb5 HB HX HY HZ
      by_cases hri0 : ri2 = 0
      case neg =>
        have e1 : (ri2 != 0) = true := by simp; exact hri0
        have HE : Hid (AddSays bd l1 l2 ri2 []) := Lib.hid (.inr (.inr (.inl ⟨HMAYP.out, HRE1.out.trans (HH1.out (by omega)), fun h => hri0 (HRE2.out.symm.trans h), HRE2.out.symm, rfl⟩)))
        clear hri0
        go_wp2
        refine bodyPost_ret (v := .tuple #[.slice none 0 0, .int .i64 ri2]) (by simp [results, Tryd.results22, go_sem]) rfl ?_
        exact .none HE.out HB5.out
      case pos =>
      subst hri0
      go_wp2
      go_roundg 0
      case measure => omega
      case rel => exact ⟨1 + 1, by go_num, rfl, by omega, HB5.out, HX5.out, HY5.out, HZ5.out, fun _ => HH1.out (by omega), by intro _; first | trivial | rfl⟩
    · have HZ1 : Hid (rightI l1 = 0) := Lib.hid (HRE1.out.trans (HH1.out (by omega)))
      have HZ2 : Hid (rightI l2 = 0) := Lib.hid (HRE2.out.trans (HH2.out (by omega)))
      have HBND := Lib.hid (bsOf_ok HMAYP.out)
      have HT1 := Lib.hid (treeOf_ok HZ1.out); have HT2 := Lib.hid (treeOf_ok HZ2.out)
      have HN1 := Lib.hid (rightI_zero HZ1.out); have HN2 := Lib.hid (rightI_zero HZ2.out)
      clear HZ HH1 HH2
      have hmm := HMM.out
      obtain ⟨bs, hbs⟩ : ∃ bs, bsOf bd = bs := ⟨_, rfl⟩
      have HBS := Lib.hid hbs
      rw [hbs] at HBND
      clear hbs
      have HNF : Hid (NF bs) := Lib.hid (nf_of_may HMAYP.out HBND.out HBND.out.eq)
      have HBL : Hid (bs.length = nb) := Lib.hid (by have := congrArg List.length HBND.out.eq; rw [List.length_map] at this; rw [← this]; exact HNB.out)
      obtain ⟨B, hB⟩ : ∃ q, wr.heap.size = q := ⟨_, rfl⟩
      have HB : Hid (Below w.heap.size w wr ∧ w.heap.size + 1 < B) := Lib.hid ⟨HB.out, by rw [← hB]; exact HY.out.lt⟩
      have HAI := AddI.start wr
      rw [hB] at HAI
      obtain ⟨w4, hw4⟩ : ∃ q : World, (wr.alloc (.map #[] 0)).alloc (.cells #[.slice none 0 0, .map (some B), .slice none 0 0] 86) = q := ⟨_, rfl⟩
      rw [hw4] at HAI
      have HAI4 := Lib.hid HAI
      clear HAI
      go_upto_region 12 with fail
      (try simp only [World.size_alloc])
      (try rw [hB])
      (try rw [hw4])
      clear hmm hw4
      have HBE : Hid (wr.heap.size = B) := Lib.hid hB
      clear hB
      obtain ⟨wo, hwo⟩ : ∃ x, x = wr := ⟨_, rfl⟩
      subst hwo
      go_loopg [36] nb (fun g s36 wx => ∃ (j : Nat) (lv tv : Value) (l : List PN) (hm td : List (Nat × Nat)) (W : WebT) (r : Nat → Nat) (tm : Nat → Option Nat) (lo : Nat → Nat), s36 = .int .i64 j ∧ g = nb - j ∧ j ≤ nb ∧ AddI B (B + 1) B (512 * j) wo wx lv tv l hm td W r tm lo (eqsB (bs.take j)))
      case atStart => exact ⟨0, _, _, _, _, _, _, _, _, _, rfl, rfl, Nat.zero_le _, HAI4.out⟩
      case round =>
        clear HAI4
        obtain ⟨j, lv, tv, l, hm, td, W, r, tm, lo, rfl, rfl, hj, hI⟩ := hrel
        have HI := Lib.hid hI
        clear hI
        by_cases hlt : j < nb
        · have hlt' : (j : Int) < nb := by omega
          have hjb : j < bs.length := by rw [HBL.out]; exact hlt
          obtain ⟨b, off, S, k, e, hbF, d0, d1, hk1, hk2, hrow⟩ := bind_bs HRB.out HBND.out.eq hjb
          have HSW : Hid (Below w.heap.size w wr) := Lib.hid (HB.out.1.trans (HI.out.below.mono (by rw [← HBE.out]; exact HB.out.1.size)))
          have hbw := hF b hbF
          replace d0 := (HSW.out.cell (p := ⟨b, off + j * 2, none⟩) hbw).trans d0
          replace d1 := (HSW.out.cell (p := ⟨b, off + j * 2 + 1, none⟩) hbw).trans d1
          have HEQ := Lib.hid (eqsB_take hjb)
          have HCN := Lib.hid (clash_not HNF.out hjb)
          have HOK := Lib.hid (HBND.out.ok _ (List.getElem_mem hjb))
          have HNR : Hid (∀ t ∈ bs[j].2.flat 0, NodeR t) := Lib.hid (rightI_zero (HBND.out.zero _ (List.getElem_mem hjb))).2.1
          have HHB : Hid (bs[j].1 ≤ 2147483647) := Lib.hid (hole_le HMAYP.out HBND.out.eq hjb)
          obtain ⟨⟨h, T⟩, hx⟩ : ∃ x, bs[j] = x := ⟨_, rfl⟩
          rw [hx] at d0 d1 hk1 hrow HEQ HCN HOK HNR HHB
          obtain ⟨tn, htn⟩ : ∃ q, (T.flat 0).length = q := ⟨_, rfl⟩
          replace d1 : wr.cell? ⟨b, off + j * 2 + 1, none⟩ = some (.slice S tn k) := by rw [← htn]; exact d1
          replace d0 : wr.cell? ⟨b, off + j * 2, none⟩ = some (.int .i64 h) := d0
          have HROW := Lib.hid hrow
          have HKK : Hid ((T.flat 0).length ≤ k ∧ k ≤ maxLen) := Lib.hid ⟨hk1, hk2⟩
          have HTN := Lib.hid htn
          subst e
          clear hk1 hk2 hrow hx htn hjb
          go_upto_region 14 with fail
          clear d0 d1 hbw
          obtain ⟨q, hq⟩ : ∃ q, wr.heap.size = q := ⟨_, rfl⟩
          obtain ⟨u0, hu0⟩ : ∃ u : World, wr.alloc (.cells #[.int .i64 h, .slice S tn k] 71) = u := ⟨_, rfl⟩
          have HI0 := Lib.hid (HI.out.alloc (.cells #[.int .i64 h, .slice S tn k] 71))
          have HX0 : Hid (Blk u0 q 71 #[.int .i64 h, .slice S tn k]) := Lib.hid (by rw [← hu0]; exact Blk.new' hq.symm)
          have HQW : Hid (∀ b, Wb (B + 1) B lv tv b → b < q) := Lib.hid (fun b hb => by rw [← hq]; exact (HI.out.web.wb_lt hb).2)
          rw [hu0] at HI0
          (try rw [hu0])
          (try rw [hq])
          clear hu0 hq HI
          have x0 := HX0.out.cell 0; have x1 := HX0.out.cell 1
          simp at x0 x1
          refine wp_region_held_drew (S := (fun w' : World => w'.cell? ⟨q, 0, none⟩ = some (.int .i64 h) ∧ w'.cell? ⟨q, 1, none⟩ = some (.slice S tn k))) (by kernel_rfl) (⟨x0, x1⟩) (fun hHeld => ?_)
          refine wpAnyH_take (i := 0) (v := ?_) rfl (by kernel_rfl) (by kernel_rfl) (by kernel_rfl) (fun _ _ _ h => h) ?_ (by assumption) ?_
          rotate_left 1
          · (refine Or.inl ⟨by rfl, fun w' hSw => ?_⟩; obtain ⟨s0, s1⟩ := hSw; go_simp); try with_reducible rfl
          try simp only [Act.put, List.setIfInBounds_toArray, List.set_cons_zero, List.set_cons_succ, Nat.zero_add]
          refine wpAnyH_take (i := 1) (v := ?_) rfl (by kernel_rfl) (by kernel_rfl) (by kernel_rfl) (fun _ _ _ h => h) ?_ (by assumption) ?_
          rotate_left 1
          · (refine Or.inl ⟨by rfl, fun w' hSw => ?_⟩; obtain ⟨s0, s1⟩ := hSw; go_simp); try with_reducible rfl
          try simp only [Act.put, List.setIfInBounds_toArray, List.set_cons_zero, List.set_cons_succ, Nat.zero_add]
          refine wpAnyH_take (i := 2) (v := ?_) rfl (by kernel_rfl) (by kernel_rfl) (by kernel_rfl) (fun _ _ _ h => h) ?_ (by assumption) ?_
          rotate_left 1
          · (refine Or.inl ⟨by rfl, fun w' hSw => ?_⟩; obtain ⟨s0, s1⟩ := hSw; go_simp); try with_reducible rfl
          try simp only [Act.put, List.setIfInBounds_toArray, List.set_cons_zero, List.set_cons_succ, Nat.zero_add]
          refine wpAnyH_take (i := 3) (v := ?_) rfl (by kernel_rfl) (by kernel_rfl) (by kernel_rfl) (fun _ _ _ h => h) ?_ (by assumption) ?_
          rotate_left 1
          · (refine Or.inl ⟨by rfl, fun w' hSw => ?_⟩; obtain ⟨s0, s1⟩ := hSw; go_simp); try with_reducible rfl
          try simp only [Act.put, List.setIfInBounds_toArray, List.set_cons_zero, List.set_cons_succ, Nat.zero_add]
          refine wpAnyH_take (i := 4) (v := ?_) rfl (by kernel_rfl) (by kernel_rfl) (by kernel_rfl) (fun _ _ _ h => h) ?_ (by assumption) ?_
          rotate_left 1
          · (refine Or.inl ⟨by rfl, fun w' hSw => ?_⟩; obtain ⟨s0, s1⟩ := hSw; go_simp); try with_reducible rfl
          try simp only [Act.put, List.setIfInBounds_toArray, List.set_cons_zero, List.set_cons_succ, Nat.zero_add]
          refine wpAnyH_take (i := 8) (v := ?_) rfl (by kernel_rfl) (by kernel_rfl) (by kernel_rfl) (fun _ _ _ h => h) ?_ (by assumption) ?_
          rotate_left 1
          · (refine Or.inl ⟨by rfl, fun w' hSw => ?_⟩; obtain ⟨s0, s1⟩ := hSw; go_simp); try with_reducible rfl
          try simp only [Act.put, List.setIfInBounds_toArray, List.set_cons_zero, List.set_cons_succ, Nat.zero_add]
          refine wpAnyH_take (i := 9) (v := ?_) rfl (by kernel_rfl) (by kernel_rfl) (by kernel_rfl) (fun _ _ _ h => h) ?_ (by assumption) ?_
          rotate_left 1
          · (refine Or.inl ⟨by rfl, fun w' hSw => ?_⟩; obtain ⟨s0, s1⟩ := hSw; go_simp); try with_reducible rfl
          try simp only [Act.put, List.setIfInBounds_toArray, List.set_cons_zero, List.set_cons_succ, Nat.zero_add]
          refine wpAnyH_take (i := 10) (v := ?_) rfl (by kernel_rfl) (by kernel_rfl) (by kernel_rfl) (fun _ _ _ h => h) ?_ (by assumption) ?_
          rotate_left 1
          · (refine Or.inl ⟨by rfl, fun w' hSw => ?_⟩; obtain ⟨s0, s1⟩ := hSw; go_simp); try with_reducible rfl
          try simp only [Act.put, List.setIfInBounds_toArray, List.set_cons_zero, List.set_cons_succ, Nat.zero_add]
          refine wpAnyH_ready (rs := [5]) (by kernel_rfl) (by simp) (AllReadyH.cons rfl (fun K hK => ?_) AllReadyH.nil)
          go_simp
          refine hK.out _ _ ⟨(cell_alloc HX0.out.lt _ _).trans x0, (cell_alloc HX0.out.lt _ _).trans x1⟩ (fun hHeld => ?_)
          clear hK K
          obtain ⟨q5, hq5⟩ : ∃ z, u0.heap.size = z := ⟨_, rfl⟩
          obtain ⟨u1, hu1⟩ : ∃ z : World, (u0.alloc (.cells #[.int .i64 h, .string ⟨#[]⟩, .slice none 0 0] 58)).drew = z := ⟨_, rfl⟩
          have HI1 : Hid (AddI B (B + 1) B (512 * j) wo u1 lv tv l hm td W r tm lo (eqsB (bs.take j))) := Lib.hid (by rw [← hu1]; exact (HI0.out.alloc _).drew)
          have HX1 : Hid (Blk u1 q 71 #[.int .i64 h, .slice S tn k]) := Lib.hid (by rw [← hu1]; exact (HX0.out.alloc _).drew)
          have HY1 : Hid (Blk u1 q5 58 #[.int .i64 h, .string ByteArray.empty, .slice none 0 0]) := Lib.hid (by rw [← hu1]; exact (Blk.new' hq5.symm).drew)
          have HQ5 : Hid (q < q5) := Lib.hid (by rw [← hq5]; exact HX0.out.lt)
          (try rw [hu1] at hHeld)
          (try rw [hu1])
          (try rw [hq5])
          clear hu1 hq5 HI0 HX0 x0 x1
          try simp only [Act.put, List.setIfInBounds_toArray, List.set_cons_zero, List.set_cons_succ, Nat.zero_add]
          refine wpAnyH_take (i := 6) (v := ?_) rfl (by kernel_rfl) (by kernel_rfl) (by kernel_rfl) (fun _ _ _ h => h) ?_ (by assumption) ?_
          rotate_left 1
          · (refine Or.inl ⟨by rfl, fun w' hSw => ?_⟩; obtain ⟨s0, s1⟩ := hSw; go_simp); try with_reducible rfl
          try simp only [Act.put, List.setIfInBounds_toArray, List.set_cons_zero, List.set_cons_succ, Nat.zero_add]
          refine wpAnyH_ready (rs := [7]) (by kernel_rfl) (by simp) (AllReadyH.cons rfl (fun K hK => ?_) AllReadyH.nil)
          go_simp
          refine (HI1.out.lay (F := fun b => b = q5) (T := .hole h .nil) (by omega) rfl ⟨HOK.out.1, HHB.out, trivial⟩ (by show 1 + 0 ≤ 256; omega) (hole_nodeR HOK.out.1 HHB.out) (ts := [⟨(h : Int), ByteArray.empty, []⟩]) rfl (fun b e => by subst e; exact ⟨HY1.out.lt, fun hb => by have := HQW.out _ hb; have := HQ5.out; omega⟩) (hole_row HY1.out) (Nat.le_refl _) (by unfold maxLen; simp)).mono ?_
          rintro _ u2 ⟨k1, rfl, lv2, l2, hm2, W2, tm2, lo2, hI2, hold2, hk2, ht2, hkb2⟩
          have HI2 := Lib.hid hI2
          have HK2 : Hid (k1 < W2.n ∧ W2.tr k1 = .hole h .nil) := Lib.hid ⟨hk2, ht2⟩
          have HX2' : Hid (Blk u2 q 71 #[.int .i64 h, .slice S tn k]) := Lib.hid (HX1.out.kb hkb2 (fun hb => by have := HQW.out _ hb; omega))
          have x0 := HX2'.out.cell 0; have x1 := HX2'.out.cell 1
          simp at x0 x1
          clear hI2 hold2 hk2 ht2 hkb2 HI1 HX1 HY1
          refine hK.out _ _ ⟨x0, x1⟩ (fun hHeld => ?_)
          clear hK K
          try simp only [Act.put, List.setIfInBounds_toArray, List.set_cons_zero, List.set_cons_succ, Nat.zero_add]
          refine wpAnyH_ready (rs := [11]) (by kernel_rfl) (by simp) (AllReadyH.cons rfl (fun K hK => ?_) AllReadyH.nil)
          go_simp
          have HSW2 : Hid (Below w.heap.size w u2) := Lib.hid (HB.out.1.trans (HI2.out.below.mono (by rw [← HBE.out]; exact HB.out.1.size)))
          have HCALL := HI2.out.lay (F := F) (T := T) (by omega) HOK.out.2.1 HOK.out.2.2.1 HOK.out.2.2.2 HNR.out rfl (fun b hb => ⟨Nat.lt_of_lt_of_le (hF b hb) HSW2.out.size, fun hw => by have h1 := (HI2.out.web.wb_lt hw).1; have h2 := hF b hb; have h3 := HB.out.2; omega⟩) (HROW.out.keep ETN.stays (Keep.below (w' := u2) (w := w) HSW2.out hF) (fun _ h => h)) HKK.out.1 HKK.out.2
          rw [HTN.out] at HCALL
          refine HCALL.mono ?_
          clear HCALL
          rintro _ u3 ⟨k2, rfl, lv3, l3, hm3, W3, tm3, lo3, hI3, hold3, hk3, ht3, hkb3⟩
          have HI3 := Lib.hid hI3
          have HK3 : Hid (k1 < W3.n ∧ W3.tr k1 = .hole h .nil ∧ k2 < W3.n ∧ W3.tr k2 = T) := Lib.hid ⟨(hold3 k1 HK2.out.1).1, (hold3 k1 HK2.out.1).2.trans HK2.out.2, hk3, ht3⟩
          have HX3' : Hid (Blk u3 q 71 #[.int .i64 h, .slice S tn k]) := Lib.hid (HX2'.out.kb hkb3 (HI2.out.web.not_wb HX2'.out (by decide) (by decide) (by decide)))
          have x0' := HX3'.out.cell 0; have x1' := HX3'.out.cell 1
          simp at x0' x1'
          clear hI3 hold3 hk3 ht3 hkb3 HI2 HX2' x0 x1 HSW2
          refine hK.out _ _ ⟨x0', x1'⟩ (fun hHeld => ?_)
          clear hK K
          try simp only [Act.put, List.setIfInBounds_toArray, List.set_cons_zero, List.set_cons_succ, Nat.zero_add]
          refine wpAnyH_ready (rs := [12]) (by kernel_rfl) (by simp) (AllReadyH.cons rfl (fun K hK => ?_) AllReadyH.nil)
          go_simp
          refine (HI3.out.call (by omega) HK3.out.1 HK3.out.2.2.1 (q := (.hole h .nil, T)) HK3.out.2.1 HK3.out.2.2.2).mono ?_
          rintro _ u4 (⟨rfl, tv4, l4, r4, tm4, lo4, hI4, hkb4⟩ | ⟨_, hc, _⟩)
          rotate_left 1
          · exact absurd hc HCN.out
          have HI4 := Lib.hid hI4
          have HX4' : Hid (Blk u4 q 71 #[.int .i64 h, .slice S tn k]) := Lib.hid (HX3'.out.kb hkb4 (HI3.out.web.not_wb HX3'.out (by decide) (by decide) (by decide)))
          have x0 := HX4'.out.cell 0; have x1 := HX4'.out.cell 1
          simp at x0 x1
          clear hI4 hkb4 HI3 HX3' x0' x1'
          refine hK.out _ _ ⟨x0, x1⟩ (fun hHeld => ?_)
          clear hK K
          try simp only [Act.put, List.setIfInBounds_toArray, List.set_cons_zero, List.set_cons_succ, Nat.zero_add]
          refine wpAnyH_done (by kernel_rfl) ?_ _
          all_goals
            clear hHeld
            go_wp2_with fail
            go_roundg (nb - (j + 1))
            case measure => omega
            case rel => exact ⟨j + 1, _, _, _, _, _, _, _, _, _, by go_num, rfl, by omega, by rw [HEQ.out]; exact HI4.out⟩
        · have HEB : Hid (eqsB (bs.take j) = eqsB bs) := Lib.hid (by rw [List.take_of_length_le (by rw [HBL.out]; omega)])
          have hjn : j = nb := by omega
          subst hjn
          rw [HEB.out] at HI
          have HSW : Hid (Below w.heap.size w wr) := Lib.hid (HB.out.1.trans (HI.out.below.mono (by rw [← HBE.out]; exact HB.out.1.size)))
          have HXA : Hid (∀ w', Below B wo w' → Blk w' w.heap.size 24 #[.slice A1 m1 c1] ∧ Blk w' (w.heap.size + 1) 24 #[.slice A2 m2 c2]) := Lib.hid (fun w' hb => ⟨HX.out.below hb (by have := HB.out.2; omega), HY.out.below hb HB.out.2⟩)
          have HFA : Hid (∀ w', Below B wo w' → Below w.heap.size w w') := Lib.hid (fun w' hb => HB.out.1.trans (hb.mono (by rw [← HBE.out]; exact HB.out.1.size)))
          have HSS : Hid (∀ w', Below B wo w' → (fun w' : World => w'.cell? ⟨w.heap.size, 0, none⟩ = some (.slice A1 m1 c1) ∧ w'.cell? ⟨w.heap.size + 1, 0, none⟩ = some (.slice A2 m2 c2)) w') := Lib.hid (fun w' hb => by
            obtain ⟨a, b⟩ := HXA.out w' hb
            have x0 := a.cell 0; have y0 := b.cell 0
            simp at x0 y0
            exact ⟨x0, y0⟩)
          have HFIN : Hid (∀ o err out, Comes (eqsB bs ++ [(treeOf l1, treeOf l2)]) o → OutIs o err out → AddSays bd l1 l2 err out) := Lib.hid (fun o err out h1 h2 => .inr (.inr (.inr ⟨HMAYP.out, HZ1.out, HZ2.out, o, by unfold addEqs; rw [HBS.out]; exact h1, h2⟩)))
          go_upto_region 16 with fail
          refine wp_region_held_drew (S := (fun w' : World => w'.cell? ⟨w.heap.size, 0, none⟩ = some (.slice A1 m1 c1) ∧ w'.cell? ⟨w.heap.size + 1, 0, none⟩ = some (.slice A2 m2 c2))) (by kernel_rfl) (HSS.out _ HI.out.drew.below) (fun hHeld => ?_)
          have HI0 := Lib.hid HI.out.drew
          clear HI
          refine wpAnyH_take (i := 0) (v := ?_) rfl (by kernel_rfl) (by kernel_rfl) (by kernel_rfl) (fun _ _ _ h => h) ?_ (by assumption) ?_
          rotate_left 1
          · (refine Or.inl ⟨by rfl, fun w' hSw => ?_⟩; obtain ⟨s0, s1⟩ := hSw; go_simp); try with_reducible rfl
          try simp only [Act.put, List.setIfInBounds_toArray, List.set_cons_zero, List.set_cons_succ, Nat.zero_add]
          refine wpAnyH_take (i := 1) (v := ?_) rfl (by kernel_rfl) (by kernel_rfl) (by kernel_rfl) (fun _ _ _ h => h) ?_ (by assumption) ?_
          rotate_left 1
          · (refine Or.inl ⟨by rfl, fun w' hSw => ?_⟩; obtain ⟨s0, s1⟩ := hSw; go_simp); try with_reducible rfl
          try simp only [Act.put, List.setIfInBounds_toArray, List.set_cons_zero, List.set_cons_succ, Nat.zero_add]
          refine wpAnyH_take (i := 2) (v := ?_) rfl (by kernel_rfl) (by kernel_rfl) (by kernel_rfl) (fun _ _ _ h => h) ?_ (by assumption) ?_
          rotate_left 1
          · (refine Or.inl ⟨by rfl, fun w' hSw => ?_⟩; obtain ⟨s0, s1⟩ := hSw; go_simp); try with_reducible rfl
          try simp only [Act.put, List.setIfInBounds_toArray, List.set_cons_zero, List.set_cons_succ, Nat.zero_add]
          refine wpAnyH_take (i := 4) (v := ?_) rfl (by kernel_rfl) (by kernel_rfl) (by kernel_rfl) (fun _ _ _ h => h) ?_ (by assumption) ?_
          rotate_left 1
          · (refine Or.inl ⟨by rfl, fun w' hSw => ?_⟩; obtain ⟨s0, s1⟩ := hSw; go_simp); try with_reducible rfl
          try simp only [Act.put, List.setIfInBounds_toArray, List.set_cons_zero, List.set_cons_succ, Nat.zero_add]
          refine wpAnyH_take (i := 5) (v := ?_) rfl (by kernel_rfl) (by kernel_rfl) (by kernel_rfl) (fun _ _ _ h => h) ?_ (by assumption) ?_
          rotate_left 1
          · (refine Or.inl ⟨by rfl, fun w' hSw => ?_⟩; obtain ⟨s0, s1⟩ := hSw; go_simp); try with_reducible rfl
          try simp only [Act.put, List.setIfInBounds_toArray, List.set_cons_zero, List.set_cons_succ, Nat.zero_add]
          refine wpAnyH_ready (rs := [3]) (by kernel_rfl) (by simp) (AllReadyH.cons rfl (fun K hK => ?_) AllReadyH.nil)
          go_simp
          have HSW2 := HFA.out _ HI0.out.below
          have HCALL := HI0.out.lay (F := F) (T := treeOf l1) (by omega) HT1.out.1 HT1.out.2.1 HT1.out.2.2.2 (by rw [← HT1.out.2.2.1]; exact HN1.out.2.1) HT1.out.2.2.1 (fun b hb => ⟨Nat.lt_of_lt_of_le (hF b hb) HSW2.size, fun hw => by have h1 := (HI0.out.web.wb_lt hw).1; have h2 := hF b hb; have h3 := HB.out.2; omega⟩) (HR1.out.keep ETN.stays (Keep.below (w := w) HSW2 hF) (fun _ h => h)) HLL.out.2.1 HCM.out.2.1
          rw [HM1.out] at HCALL
          clear HSW2
          refine HCALL.mono ?_
          clear HCALL
          rintro _ u1 ⟨k1, rfl, lv1, l1', hm1, W1, tm1, lo1, hI1, hold1, hk1, ht1, hkb1⟩
          have HJ1 := Lib.hid hI1
          have HK1 : Hid (k1 < W1.n ∧ W1.tr k1 = treeOf l1) := Lib.hid ⟨hk1, ht1⟩
          clear hI1 hold1 hk1 ht1 hkb1 HI0
          refine hK.out _ _ (HSS.out _ HJ1.out.below) (fun hHeld => ?_)
          clear hK K
          try simp only [Act.put, List.setIfInBounds_toArray, List.set_cons_zero, List.set_cons_succ, Nat.zero_add]
          refine wpAnyH_ready (rs := [6]) (by kernel_rfl) (by simp) (AllReadyH.cons rfl (fun K hK => ?_) AllReadyH.nil)
          go_simp
          have HSW2 := HFA.out _ HJ1.out.below
          have HCALL := HJ1.out.lay (F := F) (T := treeOf l2) (by omega) HT2.out.1 HT2.out.2.1 HT2.out.2.2.2 (by rw [← HT2.out.2.2.1]; exact HN2.out.2.1) HT2.out.2.2.1 (fun b hb => ⟨Nat.lt_of_lt_of_le (hF b hb) HSW2.size, fun hw => by have h1 := (HJ1.out.web.wb_lt hw).1; have h2 := hF b hb; have h3 := HB.out.2; omega⟩) (HR2.out.keep ETN.stays (Keep.below (w := w) HSW2 hF) (fun _ h => h)) HLL.out.2.2 HCM.out.2.2
          rw [HM2.out] at HCALL
          clear HSW2
          refine HCALL.mono ?_
          clear HCALL
          rintro _ u2 ⟨k2, rfl, lv2, l2', hm2, W2, tm2, lo2, hI2, hold2, hk2, ht2, hkb2⟩
          have HJ2 := Lib.hid hI2
          have HK2 : Hid (k1 < W2.n ∧ W2.tr k1 = treeOf l1 ∧ k2 < W2.n ∧ W2.tr k2 = treeOf l2) := Lib.hid ⟨(hold2 k1 HK1.out.1).1, (hold2 k1 HK1.out.1).2.trans HK1.out.2, hk2, ht2⟩
          clear hI2 hold2 hk2 ht2 hkb2 HJ1 HK1
          refine hK.out _ _ (HSS.out _ HJ2.out.below) (fun hHeld => ?_)
          clear hK K
          try simp only [Act.put, List.setIfInBounds_toArray, List.set_cons_zero, List.set_cons_succ, Nat.zero_add]
          refine wpAnyH_ready (rs := [7]) (by kernel_rfl) (by simp) (AllReadyH.cons rfl (fun K hK => ?_) AllReadyH.nil)
          go_simp
          refine (HJ2.out.call (by omega) HK2.out.1 HK2.out.2.2.1 (q := (treeOf l1, treeOf l2)) HK2.out.2.1 HK2.out.2.2.2).mono ?_
          rintro _ u3 (⟨rfl, tv3, l3, r3, tm3, lo3, hI3, hkb3⟩ | ⟨rfl, hc, hkb3⟩)
          · have HJ3 := Lib.hid hI3
            have HK3 : Hid (k1 < l3.length) := Lib.hid (by rw [← hI3.pw.len]; exact HK2.out.1)
            clear hI3 hkb3 HJ2 HK2
            refine hK.out _ _ (HSS.out _ HJ3.out.below) (fun hHeld => ?_)
            clear hK K
            try simp only [Act.put, List.setIfInBounds_toArray, List.set_cons_zero, List.set_cons_succ, Nat.zero_add]
            refine wpAnyH_take (i := 8) (v := ?_) rfl (by kernel_rfl) (by kernel_rfl) (by kernel_rfl) (fun _ _ _ h => h) ?_ (by assumption) ?_
            rotate_left 1
            · (refine Or.inl ⟨by rfl, fun w' hSw => ?_⟩; obtain ⟨s0, s1⟩ := hSw; go_simp); try with_reducible rfl
            try simp only [Act.put, List.setIfInBounds_toArray, List.set_cons_zero, List.set_cons_succ, Nat.zero_add]
            refine wpAnyH_done (by kernel_rfl) ?_ _
            clear hHeld
            have hal := HK3.out
            obtain ⟨g, c, e, -, -, hc1', hc2', -⟩ := HJ3.out.web.nodes.at_ hal
            subst e
            have HBD : Hid (Calls Tryd.prog 37 #[.pointer (some ⟨B + 1, 0, none⟩)] u3 (SomeBound u3 B (B + 1) B (.slice (some ⟨g, 0, none⟩) l3.length c) tv3 (eqsB bs ++ [(treeOf l1, treeOf l2)]))) := Lib.hid (ubound_any B (B + 1) B tv3 hm2 [] W2 r3 tm3 lo3 _ HJ3.out.ust HJ3.out.meets g l3.length c (by have := HJ3.out.few.1; omega) hc1' hc2' u3 l3 rfl HJ3.out.web HJ3.out.pw (fun x hx => (HJ3.out.ok x hx).2) (by have := HJ3.out.few.2; omega) HJ3.out.holes)
            have HB3 := Lib.hid (HFA.out _ HJ3.out.below)
            have HSZ : Hid (B ≤ u3.heap.size ∧ ∀ n, Wb (B + 1) B (.slice (some ⟨g, 0, none⟩) l3.length c) tv3 n → B ≤ n) := Lib.hid ⟨HJ3.out.size, fun n hn => (HJ3.out.web.wb_lt hn).1⟩
            clear HJ3 HK3 hal hc1' hc2'
            go_wp2_with fail
            refine HBD.out.mono ?_
            clear HBD
            rintro _ u4 ⟨o, hC, hb, hkb⟩
            have HB4 : Hid (Below w.heap.size w u4) := Lib.hid (HB3.out.trans ((hkb.below HSZ.out.1 HSZ.out.2).mono (by have := HB.out.2; omega)))
            have HC4 := Lib.hid hC
            clear hkb hC
            cases o with
            | clash => exact hb.elim
            | occurs =>
              replace hb := hb
              unfold BoundIs at hb
              subst hb
              have HE := Lib.hid (HFIN.out _ 151 [] HC4.out ⟨rfl, rfl⟩)
              go_wp2_with fail
              refine bodyPost_ret (v := .tuple #[.slice none 0 0, .int .i64 151]) (by simp [results, Tryd.results22, go_sem]) rfl ?_
              exact .none HE.out HB4.out
            | long =>
              unfold BoundIs at hb
              subst hb
              have HE := Lib.hid (HFIN.out _ 3 [] HC4.out ⟨rfl, rfl⟩)
              go_wp2_with fail
              refine bodyPost_ret (v := .tuple #[.slice none 0 0, .int .i64 3]) (by simp [results, Tryd.results22, go_sem]) rfl ?_
              exact .none HE.out HB4.out
            | ok bs4 =>
              obtain ⟨v, rfl, hrow⟩ := hb
              have HE := Lib.hid (HFIN.out _ 0 (bs4.map bindOf) HC4.out ⟨rfl, rfl⟩)
              have HROW := Lib.hid hrow
              clear hrow
              go_wp2_with fail
              refine bodyPost_ret (v := .tuple #[v, .int .i64 0]) (by simp [results, Tryd.results22, go_sem]) rfl ?_
              exact ⟨0, _, v, HE.out, rfl, HROW.out.keep EBind.stays (Keep.refl _ _) (fun b h => ⟨Nat.le_trans HB3.out.size h.1, h.2⟩), HB4.out⟩
          have HC : Hid (Comes (eqsB bs ++ [(treeOf l1, treeOf l2)]) .clash) := Lib.hid hc
          have HB3 : Hid (Below B wo u3) := Lib.hid (HJ2.out.below.trans (hkb3.below HJ2.out.size fun n hn => (HJ2.out.web.wb_lt hn).1))
          clear hc hkb3 HJ2 HK2
          refine hK.out _ _ (HSS.out _ HB3.out) (fun hHeld => ?_)
          clear hK K
          try simp only [Act.put, List.setIfInBounds_toArray, List.set_cons_zero, List.set_cons_succ, Nat.zero_add]
          refine wpAnyH_take (i := 8) (v := ?_) rfl (by kernel_rfl) (by kernel_rfl) (by kernel_rfl) (fun _ _ _ h => h) ?_ (by assumption) ?_
          rotate_left 1
          · (refine Or.inl ⟨by rfl, fun w' hSw => ?_⟩; obtain ⟨s0, s1⟩ := hSw; go_simp); try with_reducible rfl
          try simp only [Act.put, List.setIfInBounds_toArray, List.set_cons_zero, List.set_cons_succ, Nat.zero_add]
          refine wpAnyH_done (by kernel_rfl) ?_ _
          have HE := Lib.hid (HFIN.out _ 150 [] HC.out ⟨rfl, rfl⟩)
          have HB4 := Lib.hid (HFA.out _ HB3.out)
          clear hHeld
          go_wp2_with fail
          refine bodyPost_ret (v := .tuple #[.slice none 0 0, .int .i64 150]) (by simp [results, Tryd.results22, go_sem]) rfl ?_
          exact .none HE.out HB4.out
end Go.Proofs.YtgcbnndbeoekgaaDoor
