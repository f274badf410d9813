import Derived.Test.YtpjkifbicfcajaaHActsP
set_option linter.unusedSimpArgs false
set_option linter.unusedVariables false
/- the law of what is done with a past -/
namespace Go.Proofs.Ytpjkifbicfcajaa
open Go Go.RowKit

set_option maxRecDepth 100000 in
set_option maxHeartbeats 16000000 in
theorem acts_any (A Aa : Option Addr) (c ca : Nat) (L : List AModel) (acts : List AAct) (w : World) (hL : RowOf 2 EModel w (· < w.heap.size) A L) (hA : RowOf 2 EAct w (· < w.heap.size) Aa acts)
    (hz : ∀ m ∈ L, ModAll m) (hza : ∀ a ∈ acts, InR a.kind ∧ InR a.model) (hln : L.length ≤ 9223372036854775807) (hla : acts.length ≤ 9223372036854775807) :
    Calls Try.prog 3 #[.slice A L.length c, .slice Aa acts.length ca] w fun e w' => e = .returned (.bool true) ∧ Below w.heap.size w w' := by
  have HL : Hid (∀ V, Below w.heap.size w V → RowOf 2 EModel V (· < w.heap.size) A L) := Lib.hid (fun V hb => hL.keep EModel.stays (Keep.below hb (fun _ h => h)) (fun _ h => h))
  have HA : Hid (∀ V, Below w.heap.size w V → RowOf 2 EAct V (· < w.heap.size) Aa acts) := Lib.hid (fun V hb => hA.keep EAct.stays (Keep.below hb (fun _ h => h)) (fun _ h => h))
  have HZ := Lib.hid hz; have HZA := Lib.hid hza
  clear hL hA hz hza
  go_enter Try.func3, Try.ntmps3
  go_wp2_with fail
  refine (great_any A c L w (· < w.heap.size) (fun _ h => h) (HL.out w (Below.refl _ _)) HZ.out hln).mono ?_
  rintro _ w1 ⟨⟨gb, rfl⟩, hb⟩
  have HB1 := Lib.hid hb
  clear hb
  cases gb
  case true =>
    go_wp2
    go_ret
    exact ⟨by simp, HB1.out⟩
  case false =>
    by_cases hL0 : L.length = 0
    · have hL0' : decide ((L.length : Int) = 0) = true := decide_eq_true (by omega)
      have hL0'' : (L.length : Int) = 0 := by omega
      go_wp2
      go_ret
      exact ⟨by simp, HB1.out⟩
    by_cases hL1 : L.length > 100
    · have hL0' : decide ((L.length : Int) = 0) = false := decide_eq_false (by omega)
      have hL1' : decide ((L.length : Int) > 100) = true := decide_eq_true (by omega)
      go_wp2
      go_ret
      exact ⟨by simp, HB1.out⟩
    have hL0' : decide ((L.length : Int) = 0) = false := decide_eq_false (by omega)
    have hL1' : decide ((L.length : Int) > 100) = false := decide_eq_false (by omega)
    have hL2 : (0 : Int) < L.length := by omega
    have hL3 : (L.length : Int) ≤ 100 := by omega
    obtain ⟨m0, hm0⟩ : ∃ m, L[0]'(by omega) = m := ⟨_, rfl⟩
    have HZ0 : Hid (ModAll m0) := Lib.hid (by rw [← hm0]; exact HZ.out _ (List.getElem_mem _))
    have HM0 : Hid (∀ V, Below w.heap.size w V → ∃ b off S cs, A = some ⟨b, off, none⟩ ∧ V.cell? ⟨b, off, none⟩ = some (.int .i64 m0.next) ∧ V.cell? ⟨b, off + 1, none⟩ = some (.slice S m0.nodes.length cs) ∧ RowOf 7 ENode V (· < w.heap.size) S m0.nodes) := Lib.hid (fun V hb => by
      obtain ⟨b, off, S, cs, e, _, d0, d1, _, _, hr⟩ := model_at (HL.out V hb) (i := 0) (by omega)
      rw [hm0] at d0 d1 hr
      exact ⟨b, off, S, cs, e, by simpa using d0, by simpa using d1, hr⟩)
    clear hm0
    obtain ⟨bA, offA, S, cs, rfl, d0, d1, hrow⟩ := HM0.out w1 HB1.out
    have HRW := Lib.hid hrow
    have hw1 : ∀ b, b < w.heap.size → b < w1.heap.size := fun b hb => Nat.lt_of_lt_of_le hb HB1.out.size
    clear hrow
    go_wp2_with fail
    refine (twinR_any S cs m0 w1 (· < w.heap.size) hw1 HRW.out (fun x hx => (HZ0.out.1 x hx).2.1) HZ0.out.2.2).mono ?_
    rintro _ w2 ⟨v0, rfl, l0, hown, hmap, hb⟩
    have HO2 := Lib.hid hown; have HMAP := Lib.hid hmap
    have HB2 := Lib.hid (HB1.out.trans (hb.mono HB1.out.size))
    have HS2 : Hid (w.heap.size ≤ w1.heap.size ∧ w1.heap.size ≤ w2.heap.size) := Lib.hid ⟨HB1.out.size, hb.size⟩
    obtain ⟨Av, cv, rfl⟩ : ∃ A c, v0 = .slice A m0.nodes.length c := by
      obtain ⟨A', c', e⟩ := own_shape hown.row
      exact ⟨A', c', by rw [e, ← hmap, List.length_map]⟩
    clear hown hmap hb d0 d1 HRW hw1
    obtain ⟨x5, hx5⟩ : ∃ x, w2.heap.size = x := ⟨_, rfl⟩
    have HWE : Hid (∃ z, w2.alloc (.cells #[.int .i64 m0.next, .slice Av m0.nodes.length cv] 27) = z) := Lib.hid ⟨_, rfl⟩
    go_upto_region 4 with fail
    obtain ⟨w3, hw3⟩ := HWE.out
    have HX3 : Hid (Blk w3 x5 27 #[.int .i64 m0.next, .slice Av m0.nodes.length cv]) := Lib.hid (by rw [← hw3]; exact Blk.new' hx5.symm)
    have hb23 : Below w2.heap.size w2 w3 := by rw [← hw3]; exact (Below.refl _ _).alloc (Nat.le_refl _) _
    have HB3 := Lib.hid (HB2.out.trans (hb23.mono HB2.out.size))
    have HO3 := Lib.hid (HO2.out.below hb23)
    have HOL : Hid (∀ b, some b ∈ ((.slice Av m0.nodes.length cv : Value).ownBlock :: allBlocks l0) → w1.heap.size ≤ b ∧ b < x5) := Lib.hid (fun b hb => by have := HO2.out.lt b hb; omega)
    have HS3 : Hid (x5 < w3.heap.size) := Lib.hid HX3.out.lt
    (try rw [hx5])
    (try rw [hw3])
    clear HWE hw3 hb23 HO2 HB2
    have m0' := HX3.out.cell 0; have m1' := HX3.out.cell 1
    have hxlt := HX3.out.lt
    simp at m0' m1'
    go_wp2_with fail
    refine (new_any Av cv m0 w3 (fun b => b < w3.heap.size) (fun _ h => h) (by
      have := HO3.out.isRow (F := fun b => b < w3.heap.size) (fun b h1 h2 => h2)
      rw [HMAP.out] at this
      exact this.row) HZ0.out).mono ?_
    rintro _ w4 ⟨pv, rfl, hb, hno, hyes⟩
    have HB4 := Lib.hid (HB3.out.trans (hb.mono HB3.out.size))
    have HX4 := Lib.hid (HX3.out.below hb hxlt)
    have HO4 := Lib.hid (HO3.out.below hb)
    have HS4 : Hid (w3.heap.size ≤ w4.heap.size) := Lib.hid hb.size
    obtain ⟨bA2, offA2, S2, cs2, e2, d0, d1, hrow⟩ := HM0.out w4 HB4.out
    injection e2 with e2
    injection e2 with e2a e2b
    subst e2a; subst e2b
    have HRW := Lib.hid hrow
    have hw4 : ∀ b, b < w.heap.size → b < w4.heap.size := fun b hb => Nat.lt_of_lt_of_le hb HB4.out.size
    clear hrow hb m0' m1' hxlt HB3 HX3 HO3
    rcases checkI_two m0 with hE | hE
    · obtain ⟨p0, rfl, hp0, hpast⟩ := hyes hE
      have HRC := Lib.hid ((right_check m0).1 hE)
      have HP4 := Lib.hid hpast
      have HP0 := Lib.hid hp0
      rw [hE]
      clear hE hyes hno hpast hp0
      go_wp2_with fail
      refine (rnew_any S2 cs2 m0 w4 (· < w.heap.size) hw4 HRW.out HZ0.out).mono ?_
      rintro _ w5 ⟨q0, rfl, hb, hq0, hrp⟩
      rw [HRC.out]
      have HB5 := Lib.hid (HB4.out.trans (hb.mono HB4.out.size))
      have HX5 := Lib.hid (HX4.out.below hb HX4.out.lt)
      have HO5 := Lib.hid (HO4.out.below hb)
      have HS5 : Hid (w4.heap.size ≤ w5.heap.size ∧ w4.heap.size ≤ q0) := Lib.hid ⟨hb.size, hq0⟩
      have HQ5 := Lib.hid hrp
      have HP5 := Lib.hid (HP4.out.below hb (fun b hb => by have := hb.2; have := HP4.out.lt; omega))
      have HPL : Hid (p0 < w4.heap.size) := Lib.hid HP4.out.lt
      clear hb hq0 hrp HB4 HX4 HO4 HP4 HRC d0 d1 HRW
      have m0' := HX5.out.cell 0; have m1' := HX5.out.cell 1
      have hxlt := HX5.out.lt
      simp at m0' m1'
      go_wp2_with fail
      refine (hspoil_any m0.next (.slice Av m0.nodes.length cv) l0 w5 w1.heap.size HO5.out).mono ?_
      rintro _ w6 ⟨rfl, hk⟩
      have HB6 := Lib.hid (HB5.out.trans (hk.toBelow HB5.out.size (fun b hb => by have := HOL.out b hb; have := HS2.out; omega)))
      have hs6 := hk.size
      have HJ6 : Hid (J w.heap.size w6 p0 q0 (.slice none 0 0) (.slice none 0 0) NoT ⟨[], m0, []⟩ ⟨[], m0, []⟩ []) := Lib.hid (by
        have hs2 := HS2.out; have hs3 := HS3.out; have hs4 := HS4.out; have hs5 := HS5.out; have hpl := HPL.out; have hp0 := HP0.out
        have hq5 := HQ5.out.lt
        have hne : ∀ b, x5 ≤ b → ¬ some b ∈ ((.slice Av m0.nodes.length cv : Value).ownBlock :: allBlocks l0) := fun b hb e => by have := HOL.out b e; omega
        refine ⟨HP5.out.keep (fun a ha => World.cell?_of_block (hk.block _ (by have := ha.2; omega) (hne _ (by have := ha.1; omega)))) (fun b hb => ⟨by have := hb.2; omega, by have := hb.2; omega, by have := hb.2; omega, by simp [Value.ownBlock], by simp [Value.ownBlock], fun e => e⟩) (hk.block _ (by omega) (hne _ (by omega))),
          HQ5.out.keep (fun a ha => World.cell?_of_block (hk.block _ (by have := ha.2; omega) (hne _ (by have := ha.1; omega)))) (fun b hb => ⟨by have := hb.2; omega, by have := hb.1; omega, by have := hb.2; omega, by simp [Value.ownBlock], by simp [Value.ownBlock], fun e => e⟩) (hk.block _ (by omega) (hne _ (by omega))),
          by omega, by omega, by omega, by unfold APast.Fits APast.list; simp, by unfold APast.Fits APast.list; simp, fun x hx => by unfold APast.list at hx; simp at hx; subst hx; exact HZ0.out, World.ownsRow_nil _ _ _ _, World.ownsRow_nil _ _ _ _, fun b e => by simp [Value.ownBlock] at e, fun b e => by simp [Value.ownBlock] at e, fun o h => by simp at h⟩)
      clear hk hs6 m0' m1' hxlt HB5 HX5 HO5 HQ5 HP5 HOL HMAP HS2 HS3 HS4 HS5 HPL HP0 HZ0 hw4 HM0
      go_wp2_with fail
      go_loopg [6, 8, 10, 11, 12] acts.length (fun g s6 s8 s10 s11 s12 wx => ∃ (i p q : Nat) (vo vw : Value) (P : APast) (Os : List Old), s6 = .pointer (some ⟨p, 0, none⟩) ∧ s8 = .pointer (some ⟨q, 0, none⟩) ∧ s10 = vo ∧ s11 = vw ∧ s12 = .int .i64 i ∧ g = acts.length - i ∧ i ≤ acts.length ∧ i ≤ 200 ∧ Os.length ≤ i ∧ Below w.heap.size w wx ∧ J w.heap.size wx p q vo vw NoT P P Os)
      case atStart => exact ⟨0, p0, q0, _, _, ⟨[], m0, []⟩, [], rfl, rfl, rfl, rfl, rfl, rfl, Nat.zero_le _, Nat.zero_le _, Nat.le_refl _, HB6.out, HJ6.out⟩
      case round =>
        clear HB6 HJ6 HB1
        obtain ⟨i, p, q, vo, vw, P, Os, rfl, rfl, rfl, rfl, rfl, rfl, hil, hi2, hol, hb, hj⟩ := hrel
        obtain ⟨wo, hwo⟩ : ∃ x, x = wr := ⟨_, rfl⟩
        subst hwo
        have HB := Lib.hid hb; have HJ := Lib.hid hj
        obtain ⟨Ao, co, rfl⟩ := own_shape hj.ro
        obtain ⟨Aw, cw, rfl⟩ := own_shape hj.rw
        have HOL := Lib.hid hol
        clear hb hj hol
        have i0 : (0 : Int) ≤ i := by omega
        by_cases hlt : i < acts.length
        · have hlt1 : (i : Int) < acts.length := by omega
          have hlt2 : decide ((i : Int) < acts.length) = true := decide_eq_true hlt1
          by_cases h200 : i < 200
          · have h201 : decide ((i : Int) < 200) = true := decide_eq_true (by omega)
            obtain ⟨bB, offB, rfl, _, e0, e1⟩ := flat2_at (u := .int .i64 acts[i].kind) (v := .int .i64 acts[i].model) (HA.out wo HB.out) hlt rfl
            have hin := HZA.out _ (List.getElem_mem hlt)
            obtain ⟨kd, hkd⟩ : ∃ x, acts[i].kind = x := ⟨_, rfl⟩
            obtain ⟨md, hmd⟩ : ∃ x, acts[i].model = x := ⟨_, rfl⟩
            rw [hkd, hmd] at hin
            rw [hkd] at e0
            rw [hmd] at e1
            obtain ⟨hkr, hmd⟩ := hin
            clear hkd
            by_cases hk0 : kd = 0
            · subst hk0
              go_wp2_with fail
              have HJ0 := HJ; have HB0 := HB
              have HSEP : Hid (∀ b, wo.heap.size ≤ b → b ≠ p ∧ b ≠ q ∧ ((.slice Ao Os.length co) : Value).ownBlock ≠ some b ∧ ((.slice Aw Os.length cw) : Value).ownBlock ≠ some b) := Lib.hid HJ.out.sep
              refine (hindex_any md L.length wo hmd (by omega) hln).mono ?_
              rintro _ _ ⟨k, hk, rfl, hwe⟩
              subst hwe
              have k0 : (0 : Int) ≤ k := by omega
              have k1 : (k : Int) < L.length := by omega
              obtain ⟨m, hm⟩ : ∃ m, L[k]'hk = m := ⟨_, rfl⟩
              have HZM : Hid (ModAll m) := Lib.hid (by rw [← hm]; exact HZ.out _ (List.getElem_mem _))
              obtain ⟨b1, off1, S, cs, e1, _, d0, d1, _, _, _⟩ := model_at (HL.out wo HB.out) hk
              injection e1 with e1
              injection e1 with e1a e1b
              subst e1a; subst e1b
              rw [hm] at d0 d1
              have HRM : Hid (∀ V, Below w.heap.size w V → RowOf 7 ENode V (· < w.heap.size) S m.nodes) := Lib.hid (fun V hb => by
                obtain ⟨b2, off2, S2, cs2, e2, _, x0, x1, _, _, hr⟩ := model_at (HL.out V hb) hk
                obtain ⟨b3, off3, S3, cs3, e3, hbF3, y0, y1, _, _, hr3⟩ := model_at (HL.out w (Below.refl _ _)) hk
                rw [hm] at x0 x1 hr hr3 y0 y1
                have hs : S3 = S := by
                  have z1 := (HB.out.cell (p := ⟨b3, off3 + k * 2 + 1, none⟩) hbF3).symm.trans (by injection e3 with e3; injection e3 with e3a e3b; subst e3a; subst e3b; exact d1)
                  rw [y1] at z1
                  injection z1 with z1
                  injection z1
                subst hs
                exact hr3.keep ENode.stays (Keep.below hb (fun _ h => h)) (fun _ h => h))
              clear hm
              obtain ⟨x15, hx15⟩ : ∃ x, wo.heap.size = x := ⟨_, rfl⟩
              have HWE : Hid (∃ z, wo.alloc (.cells #[.int .i64 m.next, .slice S m.nodes.length cs] 27) = z) := Lib.hid ⟨_, rfl⟩
              go_upto_region 21 with fail
              obtain ⟨wa, hu⟩ := HWE.out
              have HXA : Hid (Blk wa x15 27 #[.int .i64 m.next, .slice S m.nodes.length cs]) := Lib.hid (by rw [← hu]; exact Blk.new' hx15.symm)
              have hb3 : Below wo.heap.size wo wa := by rw [← hu]; exact (Below.refl _ _).alloc (Nat.le_refl _) _
              have HLx15 : Hid (wo.heap.size ≤ x15 ∧ x15 < wa.heap.size) := Lib.hid ⟨by omega, by rw [← hu, ← hx15]; simp⟩
              (try rw [hx15])
              (try rw [hu])
              clear HWE hu hx15
              have HBA := Lib.hid (HB.out.trans (hb3.mono HB.out.size))
              have HJA := Lib.hid (HJ.out.below hb3)
              clear HB HJ
              clear hb3
              have m0 := HXA.out.cell 0; have m1 := HXA.out.cell 1
              have hxlt := HXA.out.lt
              simp at m0 m1
              clear d0 d1
              go_wp2_with fail
              refine (twinR_any S cs m wa (· < w.heap.size) (fun b hb => Nat.lt_of_lt_of_le hb HBA.out.size) (HRM.out wa HBA.out) (fun x hx => (HZM.out.1 x hx).2.1) HZM.out.2.2).mono ?_
              rintro _ wb ⟨v, rfl, l, hown, hmap, hb3⟩
              have HMAP := Lib.hid hmap
              obtain ⟨Av, cv, rfl⟩ : ∃ A c, v = .slice A m.nodes.length c := by
                obtain ⟨A', c', e⟩ := own_shape hown.row
                exact ⟨A', c', by rw [e, ← hmap, List.length_map]⟩
              have HOB := Lib.hid hown
              have HJB : Hid (J w.heap.size wb p q (.slice Ao Os.length co) (.slice Aw Os.length cw) (fun b => some b ∈ ((.slice Av m.nodes.length cv : Value).ownBlock :: allBlocks l)) P P Os) := Lib.hid (HJA.out.belowT hb3 (fun b hb => .inr (hown.lt b hb).1))
              have HBB := Lib.hid (HBA.out.trans (hb3.mono HBA.out.size))
              have HXB := Lib.hid (HXA.out.below hb3 hxlt)
              have HOW : Hid (∀ b, (fun b => some b ∈ ((.slice Av m.nodes.length cv : Value).ownBlock :: allBlocks l)) b → wa.heap.size ≤ b ∧ b < wb.heap.size) := Lib.hid (fun b hb => hown.lt b hb)
              have HAB : Hid (wo.heap.size ≤ wa.heap.size ∧ wa.heap.size ≤ wb.heap.size ∧ x15 < wa.heap.size ∧ wo.heap.size ≤ x15) := Lib.hid ⟨by have := HLx15.out; omega, hb3.size, HLx15.out.2, HLx15.out.1⟩
              clear hown hmap hb3 m0 m1 hxlt HJA HBA HXA HLx15
              obtain ⟨x16, hx16⟩ : ∃ x, wb.heap.size = x := ⟨_, rfl⟩
              have HWE : Hid (∃ z, wb.alloc (.cells #[.int .i64 m.next, .slice Av m.nodes.length cv] 27) = z) := Lib.hid ⟨_, rfl⟩
              go_upto_region 22 with fail
              obtain ⟨wc, hu⟩ := HWE.out
              have HYC : Hid (Blk wc x16 27 #[.int .i64 m.next, .slice Av m.nodes.length cv]) := Lib.hid (by rw [← hu]; exact Blk.new' hx16.symm)
              have hb3 : Below wb.heap.size wb wc := by rw [← hu]; exact (Below.refl _ _).alloc (Nat.le_refl _) _
              have HLx16 : Hid (wb.heap.size ≤ x16 ∧ x16 < wc.heap.size) := Lib.hid ⟨by omega, by rw [← hu, ← hx16]; simp⟩
              (try rw [hx16])
              (try rw [hu])
              clear HWE hu hx16
              have HBC := Lib.hid (HBB.out.trans (hb3.mono HBB.out.size))
              have HJC := Lib.hid (HJB.out.below hb3)
              have HXC := Lib.hid (HXB.out.below hb3 HXB.out.lt)
              have HOC := Lib.hid (HOB.out.below hb3)
              clear HBB HJB HXB HOB
              clear hb3
              have HSS : Hid (∀ w', Blk w' x15 27 #[.int .i64 m.next, .slice S m.nodes.length cs] → Blk w' x16 27 #[.int .i64 m.next, .slice Av m.nodes.length cv] → (fun w' : World => w'.cell? ⟨x15, 0, none⟩ = some (.int .i64 m.next) ∧ w'.cell? ⟨x15, 1, none⟩ = some (.slice S m.nodes.length cs) ∧ w'.cell? ⟨x16, 0, none⟩ = some (.int .i64 m.next) ∧ w'.cell? ⟨x16, 1, none⟩ = some (.slice Av m.nodes.length cv)) w') := Lib.hid (fun w' h1 h2 => by
                have m0 := h1.cell 0; have m1 := h1.cell 1; have n0 := h2.cell 0; have n1 := h2.cell 1
                simp at m0 m1 n0 n1
                exact ⟨m0, m1, n0, n1⟩)
              have HBC2 : Hid (wb.heap.size ≤ wc.heap.size) := Lib.hid (by have := HLx16.out; omega)
              obtain ⟨u, hu⟩ : ∃ u : World, wc.drew = u := ⟨_, rfl⟩
              have hb3 : Below wc.heap.size wc u := by rw [← hu]; exact (Below.refl _ _).drew
              have HCU : Hid (wb.heap.size ≤ u.heap.size) := Lib.hid (by have := hb3.size; have := HBC2.out; omega)
              have HBU := Lib.hid (HBC.out.trans (hb3.mono HBC.out.size))
              have HJU := Lib.hid (HJC.out.below hb3)
              have HXU := Lib.hid (HXC.out.below hb3 HXC.out.lt)
              have HOU := Lib.hid (HOC.out.below hb3)
              have HYU := Lib.hid (HYC.out.below hb3 HYC.out.lt)
              clear HBC HJC HXC HOC HYC
              clear hb3
              refine wp_region_Y (S := (fun w' : World => w'.cell? ⟨x15, 0, none⟩ = some (.int .i64 m.next) ∧ w'.cell? ⟨x15, 1, none⟩ = some (.slice S m.nodes.length cs) ∧ w'.cell? ⟨x16, 0, none⟩ = some (.int .i64 m.next) ∧ w'.cell? ⟨x16, 1, none⟩ = some (.slice Av m.nodes.length cv))) 7 (by kernel_rfl) (by rw [hu]; exact HSS.out _ HXU.out HYU.out) (fun hHeld => ?_)
              rw [hu] at hHeld ⊢
              clear hu
              refine wpAnyY_take (i := 0) (v := ?_) rfl (by kernel_rfl) (by kernel_rfl) (by kernel_rfl) (by kernel_rfl) (fun _ _ _ h => h) (Or.inl ⟨by rfl, ?_⟩) (by assumption) ?_
              rotate_left 1
              · (intro w' hSw; obtain ⟨s0, s1, s2, s3⟩ := hSw; go_simp); try with_reducible rfl
              try simp only [Act.put, List.setIfInBounds_toArray, List.set_cons_zero, List.set_cons_succ, Nat.zero_add]
              refine wpAnyY_take (i := 1) (v := ?_) rfl (by kernel_rfl) (by kernel_rfl) (by kernel_rfl) (by kernel_rfl) (fun _ _ _ h => h) (Or.inl ⟨by rfl, ?_⟩) (by assumption) ?_
              rotate_left 1
              · (intro w' hSw; obtain ⟨s0, s1, s2, s3⟩ := hSw; go_simp); try with_reducible rfl
              try simp only [Act.put, List.setIfInBounds_toArray, List.set_cons_zero, List.set_cons_succ, Nat.zero_add]
              refine wpAnyY_take (i := 3) (v := ?_) rfl (by kernel_rfl) (by kernel_rfl) (by kernel_rfl) (by kernel_rfl) (fun _ _ _ h => h) (Or.inl ⟨by rfl, ?_⟩) (by assumption) ?_
              rotate_left 1
              · (intro w' hSw; obtain ⟨s0, s1, s2, s3⟩ := hSw; go_simp); try with_reducible rfl
              try simp only [Act.put, List.setIfInBounds_toArray, List.set_cons_zero, List.set_cons_succ, Nat.zero_add]
              refine wpAnyY_take (i := 4) (v := ?_) rfl (by kernel_rfl) (by kernel_rfl) (by kernel_rfl) (by kernel_rfl) (fun _ _ _ h => h) (Or.inl ⟨by rfl, ?_⟩) (by assumption) ?_
              rotate_left 1
              · (intro w' hSw; obtain ⟨s0, s1, s2, s3⟩ := hSw; go_simp); try with_reducible rfl
              try simp only [Act.put, List.setIfInBounds_toArray, List.set_cons_zero, List.set_cons_succ, Nat.zero_add]
              refine wpAnyY_one (i := 2) rfl (by kernel_rfl) (fun K hK => ?_)
              go_simp
              refine (push_any p P Av cv m u (Frz u p q (.slice Ao Os.length co) (.slice Aw Os.length cw) (fun b => some b ∈ ((.slice Av m.nodes.length cv : Value).ownBlock :: allBlocks l))) (fun b => b < u.heap.size) (fun b h => h.1) (fun _ h => h) (fun h => h.2.1 rfl) HJU.out.past HJU.out.fits (by
                have := HOU.out.isRow (F := fun b => b < u.heap.size) (fun b h1 h2 => h2)
                rw [HMAP.out] at this
                exact this.row) HZM.out).mono ?_
              rintro _ w5 ⟨rfl, hk5, hp5⟩
              have HJ5 : Hid (J w.heap.size w5 p q (.slice Ao Os.length co) (.slice Aw Os.length cw) (fun b => some b ∈ ((.slice Av m.nodes.length cv : Value).ownBlock :: allBlocks l)) (pushP P m).2 P Os) := Lib.hid (HJU.out.stepP hk5 (fun _ h => .inl h) hp5 (fun b hb => hb.elim (Frz.up hk5.size (fun _ h => .inl h) b) (fun h => by
                obtain ⟨a1, a2, a3, a4⟩ := HJU.out.sep b h.1
                exact ⟨h.2, a1, a2, a3, a4, fun e => by have := (HOW.out b e).2; have := HCU.out; omega⟩)) (pushP_fits m HJU.out.fits) (pushP_all HJU.out.all HZM.out))
              have hpl := HJ0.out.plt
              have HB5 := Lib.hid (HBU.out.trans (hk5.toBelow HBU.out.size (fun b e => by subst e; exact HJ0.out.bp)))
              have HX5 := Lib.hid (hk5.blk HXU.out (by have := HAB.out; omega))
              have HY5 := Lib.hid (hk5.blk HYU.out (by have := HAB.out; have := HLx16.out; omega))
              have HO5 := Lib.hid (HOU.out.keep (w' := w5) (fun b h1 h2 => hk5.block b h2 (by have := HAB.out; omega)))
              clear hk5 hp5 hpl HJU HBU HXU HYU HOU
              go_simp
              refine hK.out _ _ (fun _ => HSS.out _ HX5.out HY5.out) ?_
              have hHeld5 := HSS.out _ HX5.out HY5.out
              clear hK K
              try simp only [Act.put, List.setIfInBounds_toArray, List.set_cons_zero, List.set_cons_succ, Nat.zero_add]
              refine wpAnyY_one (i := 5) rfl (by kernel_rfl) (fun K hK => ?_)
              go_simp
              refine (rpush_any q P S cs m w5 (Frz w5 p q (.slice Ao Os.length co) (.slice Aw Os.length cw) (fun b => some b ∈ ((.slice Av m.nodes.length cv : Value).ownBlock :: allBlocks l))) (· < w.heap.size) (fun b h => h.1) (fun b h => Nat.lt_of_lt_of_le h HB5.out.size) (fun h => h.2.2.1 rfl) (by have := HJ5.out.bq; omega) HJ5.out.rpast HJ5.out.fitsq (HRM.out w5 HB5.out) HZM.out).mono ?_
              rintro _ w6 ⟨rfl, hk6, hq6⟩
              have HJ6 : Hid (J w.heap.size w6 p q (.slice Ao Os.length co) (.slice Aw Os.length cw) (fun b => some b ∈ ((.slice Av m.nodes.length cv : Value).ownBlock :: allBlocks l)) (pushP P m).2 (pushP P m).2 Os) := Lib.hid (HJ5.out.stepQ hk6 (fun _ h => .inl h) hq6 (fun b hb => hb.elim (Frz.up hk6.size (fun _ h => .inl h) b) (fun h => by
                obtain ⟨a1, a2, a3, a4⟩ := HJ5.out.sep b h.1
                exact ⟨h.2, a1, a2, a3, a4, fun e => by have := (HO5.out.lt b e).2; omega⟩)) HJ5.out.fits)
              have hql := HJ0.out.qlt
              have HB6 := Lib.hid (HB5.out.trans (hk6.toBelow HB5.out.size (fun b e => by subst e; exact HJ5.out.bq)))
              have HX6 := Lib.hid (hk6.blk HX5.out (by have := HAB.out; omega))
              have HY6 := Lib.hid (hk6.blk HY5.out (by have := HAB.out; have := HLx16.out; omega))
              have HO6 := Lib.hid (HO5.out.keep (w' := w6) (fun b h1 h2 => hk6.block b h2 (by have := HAB.out; omega)))
              clear hk6 hq6 hql HJ5 HB5 HX5 HY5 HO5
              go_simp
              refine hK.out _ _ (fun _ => HSS.out _ HX6.out HY6.out) ?_
              have hHeld6 := HSS.out _ HX6.out HY6.out
              clear hK K
              try simp only [Act.put, List.setIfInBounds_toArray, List.set_cons_zero, List.set_cons_succ, Nat.zero_add]
              refine wpAnyY_one (i := 6) rfl (by kernel_rfl) (fun K hK => ?_)
              go_simp
              refine hK.out _ _ (fun _ => HSS.out _ HX6.out HY6.out) ?_
              have hHeld7 := HSS.out _ HX6.out HY6.out
              clear hK K
              try simp only [Act.put, List.setIfInBounds_toArray, List.set_cons_zero, List.set_cons_succ, Nat.zero_add]
              refine wpAnyY_one0 (i := 7) rfl (by kernel_rfl) (by kernel_rfl) (fun K hK => ?_)
              go_simp
              refine hK.out _ _ ?_
              clear hK K
              try simp only [Act.put, List.setIfInBounds_toArray, List.set_cons_zero, List.set_cons_succ, Nat.zero_add]
              refine wpAnyY_done (by kernel_rfl) ?_ _
              clear hHeld hHeld5 hHeld6 hHeld7 HX6
              have n0 := HY6.out.cell 0; have n1 := HY6.out.cell 1
              have hylt := HY6.out.lt
              simp at n0 n1
              go_wp2_with fail
              refine (hspoil_any m.next (.slice Av m.nodes.length cv) l w6 wa.heap.size HO6.out).mono ?_
              rintro _ w7 ⟨rfl, hk7⟩
              have HJ7 : Hid (J w.heap.size w7 p q (.slice Ao Os.length co) (.slice Aw Os.length cw) NoT (pushP P m).2 (pushP P m).2 Os) := Lib.hid (HJ6.out.freed hk7 (fun b hb => ⟨hb, HSEP.out b (by have := (HOW.out b hb).1; have := HAB.out; omega)⟩))
              have HB7 := Lib.hid (HB6.out.trans (hk7.toBelow HB6.out.size (fun b hb => by have := (HOW.out b hb).1; have := HAB.out; have := HB0.out.size; omega)))
              clear hk7 n0 n1 hylt HJ6 HB6 HY6 HO6 HSS
              go_wp2_with fail
              refine (hsame_any p q (pushP P m).2 w7 (Frz w7 p q (.slice Ao Os.length co) (.slice Aw Os.length cw) NoT) (fun b h => h.1) HJ7.out.past HJ7.out.rpast HJ7.out.fits HJ7.out.hereAll).mono ?_
              rintro _ w9 ⟨rfl, hb9⟩
              have HB9 := Lib.hid (HB7.out.trans (hb9.mono HB7.out.size))
              have HJ9 := Lib.hid (HJ7.out.below hb9)
              clear hb9
              go_wp2
              go_roundg (acts.length - (i + 1))
              case measure => omega
              case rel => exact ⟨i + 1, p, q, _, _, (pushP P m).2, Os, rfl, rfl, rfl, rfl, by go_num, rfl, by omega, by omega, by have := HOL.out; omega, HB9.out, HJ9.out⟩
            by_cases hk1 : kd = 1
            · subst hk1
              go_wp2_with fail
              have HJ0 := HJ; have HB0 := HB
              have HSEP : Hid (∀ b, wo.heap.size ≤ b → b ≠ p ∧ b ≠ q ∧ ((.slice Ao Os.length co) : Value).ownBlock ≠ some b ∧ ((.slice Aw Os.length cw) : Value).ownBlock ≠ some b) := Lib.hid HJ.out.sep
              refine (hindex_any md L.length wo hmd (by omega) hln).mono ?_
              rintro _ _ ⟨k, hk, rfl, hwe⟩
              subst hwe
              have k0 : (0 : Int) ≤ k := by omega
              have k1 : (k : Int) < L.length := by omega
              obtain ⟨m, hm⟩ : ∃ m, L[k]'hk = m := ⟨_, rfl⟩
              have HZM : Hid (ModAll m) := Lib.hid (by rw [← hm]; exact HZ.out _ (List.getElem_mem _))
              obtain ⟨b1, off1, S, cs, e1, _, d0, d1, _, _, _⟩ := model_at (HL.out wo HB.out) hk
              injection e1 with e1
              injection e1 with e1a e1b
              subst e1a; subst e1b
              rw [hm] at d0 d1
              have HRM : Hid (∀ V, Below w.heap.size w V → RowOf 7 ENode V (· < w.heap.size) S m.nodes) := Lib.hid (fun V hb => by
                obtain ⟨b2, off2, S2, cs2, e2, _, x0, x1, _, _, hr⟩ := model_at (HL.out V hb) hk
                obtain ⟨b3, off3, S3, cs3, e3, hbF3, y0, y1, _, _, hr3⟩ := model_at (HL.out w (Below.refl _ _)) hk
                rw [hm] at x0 x1 hr hr3 y0 y1
                have hs : S3 = S := by
                  have z1 := (HB.out.cell (p := ⟨b3, off3 + k * 2 + 1, none⟩) hbF3).symm.trans (by injection e3 with e3; injection e3 with e3a e3b; subst e3a; subst e3b; exact d1)
                  rw [y1] at z1
                  injection z1 with z1
                  injection z1
                subst hs
                exact hr3.keep ENode.stays (Keep.below hb (fun _ h => h)) (fun _ h => h))
              clear hm
              obtain ⟨x15, hx15⟩ : ∃ x, wo.heap.size = x := ⟨_, rfl⟩
              have HWE : Hid (∃ z, wo.alloc (.cells #[.int .i64 m.next, .slice S m.nodes.length cs] 27) = z) := Lib.hid ⟨_, rfl⟩
              go_upto_region 21 with fail
              obtain ⟨wa, hu⟩ := HWE.out
              have HXA : Hid (Blk wa x15 27 #[.int .i64 m.next, .slice S m.nodes.length cs]) := Lib.hid (by rw [← hu]; exact Blk.new' hx15.symm)
              have hb3 : Below wo.heap.size wo wa := by rw [← hu]; exact (Below.refl _ _).alloc (Nat.le_refl _) _
              have HLx15 : Hid (wo.heap.size ≤ x15 ∧ x15 < wa.heap.size) := Lib.hid ⟨by omega, by rw [← hu, ← hx15]; simp⟩
              (try rw [hx15])
              (try rw [hu])
              clear HWE hu hx15
              have HBA := Lib.hid (HB.out.trans (hb3.mono HB.out.size))
              have HJA := Lib.hid (HJ.out.below hb3)
              clear HB HJ
              clear hb3
              have m0 := HXA.out.cell 0; have m1 := HXA.out.cell 1
              have hxlt := HXA.out.lt
              simp at m0 m1
              clear d0 d1
              go_wp2_with fail
              refine (twinR_any S cs m wa (· < w.heap.size) (fun b hb => Nat.lt_of_lt_of_le hb HBA.out.size) (HRM.out wa HBA.out) (fun x hx => (HZM.out.1 x hx).2.1) HZM.out.2.2).mono ?_
              rintro _ wb ⟨v, rfl, l, hown, hmap, hb3⟩
              have HMAP := Lib.hid hmap
              obtain ⟨Av, cv, rfl⟩ : ∃ A c, v = .slice A m.nodes.length c := by
                obtain ⟨A', c', e⟩ := own_shape hown.row
                exact ⟨A', c', by rw [e, ← hmap, List.length_map]⟩
              have HOB := Lib.hid hown
              have HJB : Hid (J w.heap.size wb p q (.slice Ao Os.length co) (.slice Aw Os.length cw) (fun b => some b ∈ ((.slice Av m.nodes.length cv : Value).ownBlock :: allBlocks l)) P P Os) := Lib.hid (HJA.out.belowT hb3 (fun b hb => .inr (hown.lt b hb).1))
              have HBB := Lib.hid (HBA.out.trans (hb3.mono HBA.out.size))
              have HXB := Lib.hid (HXA.out.below hb3 hxlt)
              have HOW : Hid (∀ b, (fun b => some b ∈ ((.slice Av m.nodes.length cv : Value).ownBlock :: allBlocks l)) b → wa.heap.size ≤ b ∧ b < wb.heap.size) := Lib.hid (fun b hb => hown.lt b hb)
              have HAB : Hid (wo.heap.size ≤ wa.heap.size ∧ wa.heap.size ≤ wb.heap.size ∧ x15 < wa.heap.size ∧ wo.heap.size ≤ x15) := Lib.hid ⟨by have := HLx15.out; omega, hb3.size, HLx15.out.2, HLx15.out.1⟩
              clear hown hmap hb3 m0 m1 hxlt HJA HBA HXA HLx15
              obtain ⟨x16, hx16⟩ : ∃ x, wb.heap.size = x := ⟨_, rfl⟩
              have HWE : Hid (∃ z, wb.alloc (.cells #[.int .i64 m.next, .slice Av m.nodes.length cv] 27) = z) := Lib.hid ⟨_, rfl⟩
              go_upto_region 22 with fail
              obtain ⟨wc, hu⟩ := HWE.out
              have HYC : Hid (Blk wc x16 27 #[.int .i64 m.next, .slice Av m.nodes.length cv]) := Lib.hid (by rw [← hu]; exact Blk.new' hx16.symm)
              have hb3 : Below wb.heap.size wb wc := by rw [← hu]; exact (Below.refl _ _).alloc (Nat.le_refl _) _
              have HLx16 : Hid (wb.heap.size ≤ x16 ∧ x16 < wc.heap.size) := Lib.hid ⟨by omega, by rw [← hu, ← hx16]; simp⟩
              (try rw [hx16])
              (try rw [hu])
              clear HWE hu hx16
              have HBC := Lib.hid (HBB.out.trans (hb3.mono HBB.out.size))
              have HJC := Lib.hid (HJB.out.below hb3)
              have HXC := Lib.hid (HXB.out.below hb3 HXB.out.lt)
              have HOC := Lib.hid (HOB.out.below hb3)
              clear HBB HJB HXB HOB
              clear hb3
              have HSS : Hid (∀ w', Blk w' x15 27 #[.int .i64 m.next, .slice S m.nodes.length cs] → Blk w' x16 27 #[.int .i64 m.next, .slice Av m.nodes.length cv] → (fun w' : World => w'.cell? ⟨x15, 0, none⟩ = some (.int .i64 m.next) ∧ w'.cell? ⟨x15, 1, none⟩ = some (.slice S m.nodes.length cs) ∧ w'.cell? ⟨x16, 0, none⟩ = some (.int .i64 m.next) ∧ w'.cell? ⟨x16, 1, none⟩ = some (.slice Av m.nodes.length cv)) w') := Lib.hid (fun w' h1 h2 => by
                have m0 := h1.cell 0; have m1 := h1.cell 1; have n0 := h2.cell 0; have n1 := h2.cell 1
                simp at m0 m1 n0 n1
                exact ⟨m0, m1, n0, n1⟩)
              have HBC2 : Hid (wb.heap.size ≤ wc.heap.size) := Lib.hid (by have := HLx16.out; omega)
              obtain ⟨u, hu⟩ : ∃ u : World, wc.drew = u := ⟨_, rfl⟩
              have hb3 : Below wc.heap.size wc u := by rw [← hu]; exact (Below.refl _ _).drew
              have HCU : Hid (wb.heap.size ≤ u.heap.size) := Lib.hid (by have := hb3.size; have := HBC2.out; omega)
              have HBU := Lib.hid (HBC.out.trans (hb3.mono HBC.out.size))
              have HJU := Lib.hid (HJC.out.below hb3)
              have HXU := Lib.hid (HXC.out.below hb3 HXC.out.lt)
              have HOU := Lib.hid (HOC.out.below hb3)
              have HYU := Lib.hid (HYC.out.below hb3 HYC.out.lt)
              clear HBC HJC HXC HOC HYC
              clear hb3
              refine wp_region_Y (S := (fun w' : World => w'.cell? ⟨x15, 0, none⟩ = some (.int .i64 m.next) ∧ w'.cell? ⟨x15, 1, none⟩ = some (.slice S m.nodes.length cs) ∧ w'.cell? ⟨x16, 0, none⟩ = some (.int .i64 m.next) ∧ w'.cell? ⟨x16, 1, none⟩ = some (.slice Av m.nodes.length cv))) 7 (by kernel_rfl) (by rw [hu]; exact HSS.out _ HXU.out HYU.out) (fun hHeld => ?_)
              rw [hu] at hHeld ⊢
              clear hu
              refine wpAnyY_take (i := 0) (v := ?_) rfl (by kernel_rfl) (by kernel_rfl) (by kernel_rfl) (by kernel_rfl) (fun _ _ _ h => h) (Or.inl ⟨by rfl, ?_⟩) (by assumption) ?_
              rotate_left 1
              · (intro w' hSw; obtain ⟨s0, s1, s2, s3⟩ := hSw; go_simp); try with_reducible rfl
              try simp only [Act.put, List.setIfInBounds_toArray, List.set_cons_zero, List.set_cons_succ, Nat.zero_add]
              refine wpAnyY_take (i := 1) (v := ?_) rfl (by kernel_rfl) (by kernel_rfl) (by kernel_rfl) (by kernel_rfl) (fun _ _ _ h => h) (Or.inl ⟨by rfl, ?_⟩) (by assumption) ?_
              rotate_left 1
              · (intro w' hSw; obtain ⟨s0, s1, s2, s3⟩ := hSw; go_simp); try with_reducible rfl
              try simp only [Act.put, List.setIfInBounds_toArray, List.set_cons_zero, List.set_cons_succ, Nat.zero_add]
              refine wpAnyY_take (i := 3) (v := ?_) rfl (by kernel_rfl) (by kernel_rfl) (by kernel_rfl) (by kernel_rfl) (fun _ _ _ h => h) (Or.inl ⟨by rfl, ?_⟩) (by assumption) ?_
              rotate_left 1
              · (intro w' hSw; obtain ⟨s0, s1, s2, s3⟩ := hSw; go_simp); try with_reducible rfl
              try simp only [Act.put, List.setIfInBounds_toArray, List.set_cons_zero, List.set_cons_succ, Nat.zero_add]
              refine wpAnyY_take (i := 4) (v := ?_) rfl (by kernel_rfl) (by kernel_rfl) (by kernel_rfl) (by kernel_rfl) (fun _ _ _ h => h) (Or.inl ⟨by rfl, ?_⟩) (by assumption) ?_
              rotate_left 1
              · (intro w' hSw; obtain ⟨s0, s1, s2, s3⟩ := hSw; go_simp); try with_reducible rfl
              try simp only [Act.put, List.setIfInBounds_toArray, List.set_cons_zero, List.set_cons_succ, Nat.zero_add]
              refine wpAnyY_one (i := 2) rfl (by kernel_rfl) (fun K hK => ?_)
              go_simp
              refine (push_any p P Av cv m u (Frz u p q (.slice Ao Os.length co) (.slice Aw Os.length cw) (fun b => some b ∈ ((.slice Av m.nodes.length cv : Value).ownBlock :: allBlocks l))) (fun b => b < u.heap.size) (fun b h => h.1) (fun _ h => h) (fun h => h.2.1 rfl) HJU.out.past HJU.out.fits (by
                have := HOU.out.isRow (F := fun b => b < u.heap.size) (fun b h1 h2 => h2)
                rw [HMAP.out] at this
                exact this.row) HZM.out).mono ?_
              rintro _ w5 ⟨rfl, hk5, hp5⟩
              have HJ5 : Hid (J w.heap.size w5 p q (.slice Ao Os.length co) (.slice Aw Os.length cw) (fun b => some b ∈ ((.slice Av m.nodes.length cv : Value).ownBlock :: allBlocks l)) (pushP P m).2 P Os) := Lib.hid (HJU.out.stepP hk5 (fun _ h => .inl h) hp5 (fun b hb => hb.elim (Frz.up hk5.size (fun _ h => .inl h) b) (fun h => by
                obtain ⟨a1, a2, a3, a4⟩ := HJU.out.sep b h.1
                exact ⟨h.2, a1, a2, a3, a4, fun e => by have := (HOW.out b e).2; have := HCU.out; omega⟩)) (pushP_fits m HJU.out.fits) (pushP_all HJU.out.all HZM.out))
              have hpl := HJ0.out.plt
              have HB5 := Lib.hid (HBU.out.trans (hk5.toBelow HBU.out.size (fun b e => by subst e; exact HJ0.out.bp)))
              have HX5 := Lib.hid (hk5.blk HXU.out (by have := HAB.out; omega))
              have HY5 := Lib.hid (hk5.blk HYU.out (by have := HAB.out; have := HLx16.out; omega))
              have HO5 := Lib.hid (HOU.out.keep (w' := w5) (fun b h1 h2 => hk5.block b h2 (by have := HAB.out; omega)))
              clear hk5 hp5 hpl HJU HBU HXU HYU HOU
              go_simp
              refine hK.out _ _ (fun _ => HSS.out _ HX5.out HY5.out) ?_
              have hHeld5 := HSS.out _ HX5.out HY5.out
              clear hK K
              try simp only [Act.put, List.setIfInBounds_toArray, List.set_cons_zero, List.set_cons_succ, Nat.zero_add]
              refine wpAnyY_one (i := 5) rfl (by kernel_rfl) (fun K hK => ?_)
              go_simp
              refine (rpush_any q P S cs m w5 (Frz w5 p q (.slice Ao Os.length co) (.slice Aw Os.length cw) (fun b => some b ∈ ((.slice Av m.nodes.length cv : Value).ownBlock :: allBlocks l))) (· < w.heap.size) (fun b h => h.1) (fun b h => Nat.lt_of_lt_of_le h HB5.out.size) (fun h => h.2.2.1 rfl) (by have := HJ5.out.bq; omega) HJ5.out.rpast HJ5.out.fitsq (HRM.out w5 HB5.out) HZM.out).mono ?_
              rintro _ w6 ⟨rfl, hk6, hq6⟩
              have HJ6 : Hid (J w.heap.size w6 p q (.slice Ao Os.length co) (.slice Aw Os.length cw) (fun b => some b ∈ ((.slice Av m.nodes.length cv : Value).ownBlock :: allBlocks l)) (pushP P m).2 (pushP P m).2 Os) := Lib.hid (HJ5.out.stepQ hk6 (fun _ h => .inl h) hq6 (fun b hb => hb.elim (Frz.up hk6.size (fun _ h => .inl h) b) (fun h => by
                obtain ⟨a1, a2, a3, a4⟩ := HJ5.out.sep b h.1
                exact ⟨h.2, a1, a2, a3, a4, fun e => by have := (HO5.out.lt b e).2; omega⟩)) HJ5.out.fits)
              have hql := HJ0.out.qlt
              have HB6 := Lib.hid (HB5.out.trans (hk6.toBelow HB5.out.size (fun b e => by subst e; exact HJ5.out.bq)))
              have HX6 := Lib.hid (hk6.blk HX5.out (by have := HAB.out; omega))
              have HY6 := Lib.hid (hk6.blk HY5.out (by have := HAB.out; have := HLx16.out; omega))
              have HO6 := Lib.hid (HO5.out.keep (w' := w6) (fun b h1 h2 => hk6.block b h2 (by have := HAB.out; omega)))
              clear hk6 hq6 hql HJ5 HB5 HX5 HY5 HO5
              go_simp
              refine hK.out _ _ (fun _ => HSS.out _ HX6.out HY6.out) ?_
              have hHeld6 := HSS.out _ HX6.out HY6.out
              clear hK K
              try simp only [Act.put, List.setIfInBounds_toArray, List.set_cons_zero, List.set_cons_succ, Nat.zero_add]
              refine wpAnyY_one (i := 6) rfl (by kernel_rfl) (fun K hK => ?_)
              go_simp
              refine hK.out _ _ (fun _ => HSS.out _ HX6.out HY6.out) ?_
              have hHeld7 := HSS.out _ HX6.out HY6.out
              clear hK K
              try simp only [Act.put, List.setIfInBounds_toArray, List.set_cons_zero, List.set_cons_succ, Nat.zero_add]
              refine wpAnyY_one0 (i := 7) rfl (by kernel_rfl) (by kernel_rfl) (fun K hK => ?_)
              go_simp
              refine hK.out _ _ ?_
              clear hK K
              try simp only [Act.put, List.setIfInBounds_toArray, List.set_cons_zero, List.set_cons_succ, Nat.zero_add]
              refine wpAnyY_done (by kernel_rfl) ?_ _
              clear hHeld hHeld5 hHeld6 hHeld7 HX6
              have n0 := HY6.out.cell 0; have n1 := HY6.out.cell 1
              have hylt := HY6.out.lt
              simp at n0 n1
              go_wp2_with fail
              refine (hspoil_any m.next (.slice Av m.nodes.length cv) l w6 wa.heap.size HO6.out).mono ?_
              rintro _ w7 ⟨rfl, hk7⟩
              have HJ7 : Hid (J w.heap.size w7 p q (.slice Ao Os.length co) (.slice Aw Os.length cw) NoT (pushP P m).2 (pushP P m).2 Os) := Lib.hid (HJ6.out.freed hk7 (fun b hb => ⟨hb, HSEP.out b (by have := (HOW.out b hb).1; have := HAB.out; omega)⟩))
              have HB7 := Lib.hid (HB6.out.trans (hk7.toBelow HB6.out.size (fun b hb => by have := (HOW.out b hb).1; have := HAB.out; have := HB0.out.size; omega)))
              clear hk7 n0 n1 hylt HJ6 HB6 HY6 HO6 HSS
              go_wp2_with fail
              refine (hsame_any p q (pushP P m).2 w7 (Frz w7 p q (.slice Ao Os.length co) (.slice Aw Os.length cw) NoT) (fun b h => h.1) HJ7.out.past HJ7.out.rpast HJ7.out.fits HJ7.out.hereAll).mono ?_
              rintro _ w9 ⟨rfl, hb9⟩
              have HB9 := Lib.hid (HB7.out.trans (hb9.mono HB7.out.size))
              have HJ9 := Lib.hid (HJ7.out.below hb9)
              clear hb9
              go_wp2
              go_roundg (acts.length - (i + 1))
              case measure => omega
              case rel => exact ⟨i + 1, p, q, _, _, (pushP P m).2, Os, rfl, rfl, rfl, rfl, by go_num, rfl, by omega, by omega, by have := HOL.out; omega, HB9.out, HJ9.out⟩
            by_cases hk2 : kd = 2
            · subst hk2
              have HSEP : Hid (∀ b, wo.heap.size ≤ b → b ≠ p ∧ b ≠ q ∧ ((.slice Ao Os.length co) : Value).ownBlock ≠ some b ∧ ((.slice Aw Os.length cw) : Value).ownBlock ≠ some b) := Lib.hid HJ.out.sep
              have hpl := HJ.out.plt; have hql := HJ.out.qlt
              go_wp2_with fail
              refine (undo_any p P wo (Frz wo p q (.slice Ao Os.length co) (.slice Aw Os.length cw) NoT) (fun b h => h.1) (fun h => h.2.1 rfl) HJ.out.past HJ.out.fits HJ.out.all).mono ?_
              rintro _ wa ⟨mv, rfl, hka, hpa, h1, h2⟩
              obtain ⟨E, hE⟩ : ∃ E, (undoP P) = E := ⟨_, rfl⟩
              have HLS : Hid (E.2.list = P.list) := Lib.hid (by rw [← hE]; exact undoP_list P)
              have HEE := Lib.hid hE
              have h0 := undoP_two P
              rw [hE] at hpa h1 h2 h0 ⊢
              clear hE
              rcases h0 with h0 | h0
              · obtain ⟨v, l, rfl, hown, hmap⟩ := h2 h0
                obtain ⟨Am, cm, rfl⟩ : ∃ A c, v = .slice A E.2.here.nodes.length c := by
                  obtain ⟨A', c', e⟩ := own_shape hown.row
                  exact ⟨A', c', by rw [e, ← hmap, List.length_map]⟩
                have HOA := Lib.hid hown; have HMAP := Lib.hid hmap
                have HOW : Hid (∀ b, (fun b => some b ∈ ((.slice Am E.2.here.nodes.length cm : Value).ownBlock :: allBlocks l)) b → wo.heap.size ≤ b ∧ b < wa.heap.size) := Lib.hid (fun b hb => hown.lt b hb)
                clear hown hmap h1 h2
                have HFA : Hid (E.2.Fits ∧ ∀ m ∈ E.2.list, ModAll m) := Lib.hid ⟨by unfold APast.Fits; rw [HLS.out]; exact HJ.out.fits, by rw [HLS.out]; exact HJ.out.all⟩
                have HJA : Hid (J w.heap.size wa p q (.slice Ao Os.length co) (.slice Aw Os.length cw) (fun b => some b ∈ ((.slice Am E.2.here.nodes.length cm : Value).ownBlock :: allBlocks l)) E.2 P Os) := Lib.hid (HJ.out.stepP hka (fun b hb => .inr (HOW.out b hb).1) hpa (Frz.up hka.size (fun b hb => .inr (HOW.out b hb).1)) HFA.out.1 HFA.out.2)
                have HBA := Lib.hid (HB.out.trans (hka.toBelow HB.out.size (fun b e => by subst e; exact HJ.out.bp)))
                have HWA : Hid (wo.heap.size ≤ wa.heap.size) := Lib.hid hka.size
                clear hka hpa
                rw [h0]
                obtain ⟨xb, hxb⟩ : ∃ x, wa.heap.size = x := ⟨_, rfl⟩
                have HWE : Hid (∃ z, wa.alloc (.cells #[.int .i64 E.2.here.next, .slice Am E.2.here.nodes.length cm] 27) = z) := Lib.hid ⟨_, rfl⟩
                go_upto_region 26 with fail
                obtain ⟨wb, hu⟩ := HWE.out
                have HXB : Hid (Blk wb xb 27 #[.int .i64 E.2.here.next, .slice Am E.2.here.nodes.length cm]) := Lib.hid (by rw [← hu]; exact Blk.new' hxb.symm)
                have hb3 : Below wa.heap.size wa wb := by rw [← hu]; exact (Below.refl _ _).alloc (Nat.le_refl _) _
                have HLxb : Hid (wa.heap.size ≤ xb ∧ xb < wb.heap.size) := Lib.hid ⟨by omega, by rw [← hu, ← hxb]; simp⟩
                (try rw [hxb])
                (try rw [hu])
                clear HWE hu hxb
                have HBB := Lib.hid (HBA.out.trans (hb3.mono HBA.out.size))
                have HJB := Lib.hid (HJA.out.below hb3)
                have HOB := Lib.hid (HOA.out.below hb3)
                clear HBA HJA HOA
                clear hb3
                go_wp2_with fail
                refine (rundo_any q P wb (Frz wb p q (.slice Ao Os.length co) (.slice Aw Os.length cw) (fun b => some b ∈ ((.slice Am E.2.here.nodes.length cm : Value).ownBlock :: allBlocks l))) (fun b h => h.1) (fun h => h.2.2.1 rfl) HJB.out.rpast HJB.out.fitsq).mono ?_
                rintro _ wc ⟨rfl, hkc, hqc⟩
                rw [HEE.out] at hqc ⊢
                rw [h0]
                have HJC : Hid (J w.heap.size wc p q (.slice Ao Os.length co) (.slice Aw Os.length cw) (fun b => some b ∈ ((.slice Am E.2.here.nodes.length cm : Value).ownBlock :: allBlocks l)) E.2 E.2 Os) := Lib.hid (HJB.out.stepQ hkc (fun _ h => .inl h) hqc (fun b hb => hb.elim (Frz.up hkc.size (fun _ h => .inl h) b) (fun h => by
                  obtain ⟨a1, a2, a3, a4⟩ := HJB.out.sep b h.1
                  exact ⟨h.2, a1, a2, a3, a4, fun e => by have := (HOB.out.lt b e).2; omega⟩)) HFA.out.1)
                have HBC := Lib.hid (HBB.out.trans (hkc.toBelow HBB.out.size (fun b e => by subst e; exact HJB.out.bq)))
                have HXC := Lib.hid (hkc.blk HXB.out (by have := HLxb.out; have := HWA.out; omega))
                have HOC := Lib.hid (HOB.out.keep (w' := wc) (fun b h1 h2 => hkc.block b h2 (by have := HWA.out; omega)))
                clear hkc hqc HJB HBB HXB HOB
                obtain ⟨A3, c3, X3, cx3, B3, d3, hbk, _, _, _, _, rx3, _⟩ := HJC.out.rpast.opened
                have HRX := Lib.hid rx3
                have m0 := HXC.out.cell 0; have m1 := HXC.out.cell 1
                have q1' := hbk.cell 1; have q2' := hbk.cell 2
                have hxlt := HXC.out.lt; have hqlt := hbk.lt
                simp at m0 m1 q1' q2'
                clear hbk rx3
                go_wp2_with fail
                have CS := Lib.hid (fun (d : Nat) (os : Array Obj) => Calls.regrown_of (w := wc) (d := d) (os := os) (by
                  have hbr := below_regrown wc d os
                  have ho := (HOC.out.below hbr).isRow (F := fun b => b < (Sort.grow (redrawn wc d) os).heap.size) (fun b h1 h2 => h2)
                  rw [HMAP.out] at ho
                  have := res_is (eqB_yes (rfl : E.2.here = E.2.here)) (same_any Am X3 cm cx3 E.2.here E.2.here (Sort.grow (redrawn wc d) os) (fun b => b < (Sort.grow (redrawn wc d) os).heap.size) (Frz wc p q (.slice Ao Os.length co) (.slice Aw Os.length cw) (fun b => some b ∈ ((.slice Am E.2.here.nodes.length cm : Value).ownBlock :: allBlocks l))) (fun b hx => hx) (fun b hx => Nat.lt_of_lt_of_le hx.1 hbr.size) ho.row (HRX.out.keep ENode.stays (Keep.below hbr (fun b hx => hx.1)) (fun _ h => h)) (by have := (HJC.out.hereAll).2.2; omega))
                  exact this))
                have k0 := cell_regrown m0; have k1 := cell_regrown m1; have k2 := cell_regrown q1'; have k3 := cell_regrown q2'
                clear m0 m1 q1' q2'
                refine wp_region_quiet_below (by kernel_rfl) (by kernel_rfl) ?_
                repeat (first | go_big_quiet_step (exact CS.out _ _) | quiet_step (exact CS.out _ _))
                refine wpQuiet_nil ?_
                intro _ hw'
                obtain ⟨⟨dq, osq⟩, hw''⟩ := hw'
                subst hw''
                clear k0 k1 k2 k3 CS
                obtain ⟨wd, hwd⟩ : ∃ x, Sort.grow (redrawn wc dq) osq = x := ⟨_, rfl⟩
                have hb3 : Below wc.heap.size wc wd := by rw [← hwd]; exact below_regrown wc dq osq
                rw [hwd]
                clear hwd hxlt hqlt HRX
                have HBD := Lib.hid (HBC.out.trans (hb3.mono HBC.out.size))
                have HJD := Lib.hid (HJC.out.below hb3)
                have HOD := Lib.hid (HOC.out.below hb3)
                have HXD := Lib.hid (HXC.out.below hb3 HXC.out.lt)
                clear HBC HJC HOC HXC
                clear hb3
                have m0 := HXD.out.cell 0; have m1 := HXD.out.cell 1
                have hxlt := HXD.out.lt
                simp at m0 m1
                go_wp2_with fail
                refine (hspoil_any E.2.here.next (.slice Am E.2.here.nodes.length cm) l wd wo.heap.size HOD.out).mono ?_
                rintro _ we ⟨rfl, hke⟩
                have HJE : Hid (J w.heap.size we p q (.slice Ao Os.length co) (.slice Aw Os.length cw) NoT E.2 E.2 Os) := Lib.hid (HJD.out.freed hke (fun b hb => ⟨hb, HSEP.out b (HOW.out b hb).1⟩))
                have HBE := Lib.hid (HBD.out.trans (hke.toBelow HBD.out.size (fun b hb => by have := (HOW.out b hb).1; have := HB.out.size; omega)))
                clear hke m0 m1 hxlt HJD HBD HXD HOD
                go_wp2_with fail
                refine (hsame_any p q E.2 we (Frz we p q (.slice Ao Os.length co) (.slice Aw Os.length cw) NoT) (fun b h => h.1) HJE.out.past HJE.out.rpast HJE.out.fits HJE.out.hereAll).mono ?_
                rintro _ w9 ⟨rfl, hb9⟩
                have HB9 := Lib.hid (HBE.out.trans (hb9.mono HBE.out.size))
                have HJ9 := Lib.hid (HJE.out.below hb9)
                clear hb9
                go_wp2
                go_roundg (acts.length - (i + 1))
                case measure => omega
                case rel => exact ⟨i + 1, p, q, _, _, E.2, Os, rfl, rfl, rfl, rfl, by go_num, rfl, by omega, by omega, by have := HOL.out; omega, HB9.out, HJ9.out⟩
              · obtain rfl := h1 (by rw [h0]; decide)
                clear h1 h2
                have HFA : Hid (E.2.Fits ∧ ∀ m ∈ E.2.list, ModAll m) := Lib.hid ⟨by unfold APast.Fits; rw [HLS.out]; exact HJ.out.fits, by rw [HLS.out]; exact HJ.out.all⟩
                have HJA : Hid (J w.heap.size wa p q (.slice Ao Os.length co) (.slice Aw Os.length cw) NoT E.2 P Os) := Lib.hid (HJ.out.stepP hka (fun b hb => .inr hb.elim) hpa (Frz.up hka.size (fun b hb => .inr hb.elim)) HFA.out.1 HFA.out.2)
                have HBA := Lib.hid (HB.out.trans (hka.toBelow HB.out.size (fun b e => by subst e; exact HJ.out.bp)))
                have HWA : Hid (wo.heap.size ≤ wa.heap.size) := Lib.hid hka.size
                clear hka hpa
                rw [h0]
                obtain ⟨xb, hxb⟩ : ∃ x, wa.heap.size = x := ⟨_, rfl⟩
                have HWE : Hid (∃ z, wa.alloc (.cells #[.int .i64 0, .slice none 0 0] 27) = z) := Lib.hid ⟨_, rfl⟩
                go_upto_region 26 with fail
                obtain ⟨wb, hu⟩ := HWE.out
                have HXB : Hid (Blk wb xb 27 #[.int .i64 0, .slice none 0 0]) := Lib.hid (by rw [← hu]; exact Blk.new' hxb.symm)
                have hb3 : Below wa.heap.size wa wb := by rw [← hu]; exact (Below.refl _ _).alloc (Nat.le_refl _) _
                have HLxb : Hid (wa.heap.size ≤ xb ∧ xb < wb.heap.size) := Lib.hid ⟨by omega, by rw [← hu, ← hxb]; simp⟩
                (try rw [hxb])
                (try rw [hu])
                clear HWE hu hxb
                have HBB := Lib.hid (HBA.out.trans (hb3.mono HBA.out.size))
                have HJB := Lib.hid (HJA.out.below hb3)
                clear HBA HJA
                clear hb3
                go_wp2_with fail
                refine (rundo_any q P wb (Frz wb p q (.slice Ao Os.length co) (.slice Aw Os.length cw) NoT) (fun b h => h.1) (fun h => h.2.2.1 rfl) HJB.out.rpast HJB.out.fitsq).mono ?_
                rintro _ wc ⟨rfl, hkc, hqc⟩
                rw [HEE.out] at hqc ⊢
                rw [h0]
                have HJC : Hid (J w.heap.size wc p q (.slice Ao Os.length co) (.slice Aw Os.length cw) NoT E.2 E.2 Os) := Lib.hid (HJB.out.stepQ hkc (fun _ h => .inl h) hqc (fun b hb => hb.elim (Frz.up hkc.size (fun _ h => .inl h) b) (fun h => by
                  obtain ⟨a1, a2, a3, a4⟩ := HJB.out.sep b h.1
                  exact ⟨h.2, a1, a2, a3, a4, fun e => e⟩)) HFA.out.1)
                have HBC := Lib.hid (HBB.out.trans (hkc.toBelow HBB.out.size (fun b e => by subst e; exact HJB.out.bq)))
                have HXC := Lib.hid (hkc.blk HXB.out (by have := HLxb.out; have := HWA.out; omega))
                clear hkc hqc HJB HBB HXB
                obtain ⟨A3, c3, X3, cx3, B3, d3, hbk, _, _, _, _, rx3, _⟩ := HJC.out.rpast.opened
                have HRX := Lib.hid rx3
                have m0 := HXC.out.cell 0; have m1 := HXC.out.cell 1
                have q1' := hbk.cell 1; have q2' := hbk.cell 2
                have hxlt := HXC.out.lt; have hqlt := hbk.lt
                simp at m0 m1 q1' q2'
                clear hbk rx3
                go_wp2_with fail
                have CS := Lib.hid (fun (d : Nat) (os : Array Obj) => Calls.regrown_of (w := wc) (d := d) (os := os) (by
                  have := res_is (eqB_yes (rfl : (⟨0, []⟩ : AModel) = ⟨0, []⟩)) (same_any none none 0 0 ⟨0, []⟩ ⟨0, []⟩ (Sort.grow (redrawn wc d) os) (fun b => False) (fun b => False) (fun b hx => hx.elim) (fun b hx => hx.elim) (RowOf.nil _) (RowOf.nil _) (by simp))
                  exact this))
                have k0 := cell_regrown m0; have k1 := cell_regrown m1; have k2 := cell_regrown q1'; have k3 := cell_regrown q2'
                clear m0 m1 q1' q2'
                refine wp_region_quiet_below (by kernel_rfl) (by kernel_rfl) ?_
                repeat (first | go_big_quiet_step (exact CS.out _ _) | quiet_step (exact CS.out _ _))
                refine wpQuiet_nil ?_
                intro _ hw'
                obtain ⟨⟨dq, osq⟩, hw''⟩ := hw'
                subst hw''
                clear k0 k1 k2 k3 CS
                obtain ⟨wd, hwd⟩ : ∃ x, Sort.grow (redrawn wc dq) osq = x := ⟨_, rfl⟩
                have hb3 : Below wc.heap.size wc wd := by rw [← hwd]; exact below_regrown wc dq osq
                rw [hwd]
                clear hwd hxlt hqlt HRX
                have HBD := Lib.hid (HBC.out.trans (hb3.mono HBC.out.size))
                have HJD := Lib.hid (HJC.out.below hb3)
                have HXD := Lib.hid (HXC.out.below hb3 HXC.out.lt)
                clear HBC HJC HXC
                clear hb3
                have m0 := HXD.out.cell 0; have m1 := HXD.out.cell 1
                have hxlt := HXD.out.lt
                simp at m0 m1
                go_wp2_with fail
                refine (hspoil_none 0 none 0 wd).mono ?_
                rintro _ we ⟨rfl, hke⟩
                have HJE := Lib.hid (HJD.out.below hke)
                have HBE := Lib.hid (HBD.out.trans (hke.mono HBD.out.size))
                clear hke m0 m1 hxlt HJD HBD HXD
                go_wp2_with fail
                refine (hsame_any p q E.2 we (Frz we p q (.slice Ao Os.length co) (.slice Aw Os.length cw) NoT) (fun b h => h.1) HJE.out.past HJE.out.rpast HJE.out.fits HJE.out.hereAll).mono ?_
                rintro _ w9 ⟨rfl, hb9⟩
                have HB9 := Lib.hid (HBE.out.trans (hb9.mono HBE.out.size))
                have HJ9 := Lib.hid (HJE.out.below hb9)
                clear hb9
                go_wp2
                go_roundg (acts.length - (i + 1))
                case measure => omega
                case rel => exact ⟨i + 1, p, q, _, _, E.2, Os, rfl, rfl, rfl, rfl, by go_num, rfl, by omega, by omega, by have := HOL.out; omega, HB9.out, HJ9.out⟩
            by_cases hk3 : kd = 3
            · subst hk3
              have HSEP : Hid (∀ b, wo.heap.size ≤ b → b ≠ p ∧ b ≠ q ∧ ((.slice Ao Os.length co) : Value).ownBlock ≠ some b ∧ ((.slice Aw Os.length cw) : Value).ownBlock ≠ some b) := Lib.hid HJ.out.sep
              have hpl := HJ.out.plt; have hql := HJ.out.qlt
              go_wp2_with fail
              refine (redo_any p P wo (Frz wo p q (.slice Ao Os.length co) (.slice Aw Os.length cw) NoT) (fun b h => h.1) (fun h => h.2.1 rfl) HJ.out.past HJ.out.fits HJ.out.all).mono ?_
              rintro _ wa ⟨mv, rfl, hka, hpa, h1, h2⟩
              obtain ⟨E, hE⟩ : ∃ E, (redoP P) = E := ⟨_, rfl⟩
              have HLS : Hid (E.2.list = P.list) := Lib.hid (by rw [← hE]; exact redoP_list P)
              have HEE := Lib.hid hE
              have h0 := redoP_two P
              rw [hE] at hpa h1 h2 h0 ⊢
              clear hE
              rcases h0 with h0 | h0
              · obtain ⟨v, l, rfl, hown, hmap⟩ := h2 h0
                obtain ⟨Am, cm, rfl⟩ : ∃ A c, v = .slice A E.2.here.nodes.length c := by
                  obtain ⟨A', c', e⟩ := own_shape hown.row
                  exact ⟨A', c', by rw [e, ← hmap, List.length_map]⟩
                have HOA := Lib.hid hown; have HMAP := Lib.hid hmap
                have HOW : Hid (∀ b, (fun b => some b ∈ ((.slice Am E.2.here.nodes.length cm : Value).ownBlock :: allBlocks l)) b → wo.heap.size ≤ b ∧ b < wa.heap.size) := Lib.hid (fun b hb => hown.lt b hb)
                clear hown hmap h1 h2
                have HFA : Hid (E.2.Fits ∧ ∀ m ∈ E.2.list, ModAll m) := Lib.hid ⟨by unfold APast.Fits; rw [HLS.out]; exact HJ.out.fits, by rw [HLS.out]; exact HJ.out.all⟩
                have HJA : Hid (J w.heap.size wa p q (.slice Ao Os.length co) (.slice Aw Os.length cw) (fun b => some b ∈ ((.slice Am E.2.here.nodes.length cm : Value).ownBlock :: allBlocks l)) E.2 P Os) := Lib.hid (HJ.out.stepP hka (fun b hb => .inr (HOW.out b hb).1) hpa (Frz.up hka.size (fun b hb => .inr (HOW.out b hb).1)) HFA.out.1 HFA.out.2)
                have HBA := Lib.hid (HB.out.trans (hka.toBelow HB.out.size (fun b e => by subst e; exact HJ.out.bp)))
                have HWA : Hid (wo.heap.size ≤ wa.heap.size) := Lib.hid hka.size
                clear hka hpa
                rw [h0]
                obtain ⟨xb, hxb⟩ : ∃ x, wa.heap.size = x := ⟨_, rfl⟩
                have HWE : Hid (∃ z, wa.alloc (.cells #[.int .i64 E.2.here.next, .slice Am E.2.here.nodes.length cm] 27) = z) := Lib.hid ⟨_, rfl⟩
                go_upto_region 32 with fail
                obtain ⟨wb, hu⟩ := HWE.out
                have HXB : Hid (Blk wb xb 27 #[.int .i64 E.2.here.next, .slice Am E.2.here.nodes.length cm]) := Lib.hid (by rw [← hu]; exact Blk.new' hxb.symm)
                have hb3 : Below wa.heap.size wa wb := by rw [← hu]; exact (Below.refl _ _).alloc (Nat.le_refl _) _
                have HLxb : Hid (wa.heap.size ≤ xb ∧ xb < wb.heap.size) := Lib.hid ⟨by omega, by rw [← hu, ← hxb]; simp⟩
                (try rw [hxb])
                (try rw [hu])
                clear HWE hu hxb
                have HBB := Lib.hid (HBA.out.trans (hb3.mono HBA.out.size))
                have HJB := Lib.hid (HJA.out.below hb3)
                have HOB := Lib.hid (HOA.out.below hb3)
                clear HBA HJA HOA
                clear hb3
                go_wp2_with fail
                refine (rredo_any q P wb (Frz wb p q (.slice Ao Os.length co) (.slice Aw Os.length cw) (fun b => some b ∈ ((.slice Am E.2.here.nodes.length cm : Value).ownBlock :: allBlocks l))) (fun b h => h.1) (fun h => h.2.2.1 rfl) HJB.out.rpast HJB.out.fitsq).mono ?_
                rintro _ wc ⟨rfl, hkc, hqc⟩
                rw [HEE.out] at hqc ⊢
                rw [h0]
                have HJC : Hid (J w.heap.size wc p q (.slice Ao Os.length co) (.slice Aw Os.length cw) (fun b => some b ∈ ((.slice Am E.2.here.nodes.length cm : Value).ownBlock :: allBlocks l)) E.2 E.2 Os) := Lib.hid (HJB.out.stepQ hkc (fun _ h => .inl h) hqc (fun b hb => hb.elim (Frz.up hkc.size (fun _ h => .inl h) b) (fun h => by
                  obtain ⟨a1, a2, a3, a4⟩ := HJB.out.sep b h.1
                  exact ⟨h.2, a1, a2, a3, a4, fun e => by have := (HOB.out.lt b e).2; omega⟩)) HFA.out.1)
                have HBC := Lib.hid (HBB.out.trans (hkc.toBelow HBB.out.size (fun b e => by subst e; exact HJB.out.bq)))
                have HXC := Lib.hid (hkc.blk HXB.out (by have := HLxb.out; have := HWA.out; omega))
                have HOC := Lib.hid (HOB.out.keep (w' := wc) (fun b h1 h2 => hkc.block b h2 (by have := HWA.out; omega)))
                clear hkc hqc HJB HBB HXB HOB
                obtain ⟨A3, c3, X3, cx3, B3, d3, hbk, _, _, _, _, rx3, _⟩ := HJC.out.rpast.opened
                have HRX := Lib.hid rx3
                have m0 := HXC.out.cell 0; have m1 := HXC.out.cell 1
                have q1' := hbk.cell 1; have q2' := hbk.cell 2
                have hxlt := HXC.out.lt; have hqlt := hbk.lt
                simp at m0 m1 q1' q2'
                clear hbk rx3
                go_wp2_with fail
                have CS := Lib.hid (fun (d : Nat) (os : Array Obj) => Calls.regrown_of (w := wc) (d := d) (os := os) (by
                  have hbr := below_regrown wc d os
                  have ho := (HOC.out.below hbr).isRow (F := fun b => b < (Sort.grow (redrawn wc d) os).heap.size) (fun b h1 h2 => h2)
                  rw [HMAP.out] at ho
                  have := res_is (eqB_yes (rfl : E.2.here = E.2.here)) (same_any Am X3 cm cx3 E.2.here E.2.here (Sort.grow (redrawn wc d) os) (fun b => b < (Sort.grow (redrawn wc d) os).heap.size) (Frz wc p q (.slice Ao Os.length co) (.slice Aw Os.length cw) (fun b => some b ∈ ((.slice Am E.2.here.nodes.length cm : Value).ownBlock :: allBlocks l))) (fun b hx => hx) (fun b hx => Nat.lt_of_lt_of_le hx.1 hbr.size) ho.row (HRX.out.keep ENode.stays (Keep.below hbr (fun b hx => hx.1)) (fun _ h => h)) (by have := (HJC.out.hereAll).2.2; omega))
                  exact this))
                have k0 := cell_regrown m0; have k1 := cell_regrown m1; have k2 := cell_regrown q1'; have k3 := cell_regrown q2'
                clear m0 m1 q1' q2'
                refine wp_region_quiet_below (by kernel_rfl) (by kernel_rfl) ?_
                repeat (first | go_big_quiet_step (exact CS.out _ _) | quiet_step (exact CS.out _ _))
                refine wpQuiet_nil ?_
                intro _ hw'
                obtain ⟨⟨dq, osq⟩, hw''⟩ := hw'
                subst hw''
                clear k0 k1 k2 k3 CS
                obtain ⟨wd, hwd⟩ : ∃ x, Sort.grow (redrawn wc dq) osq = x := ⟨_, rfl⟩
                have hb3 : Below wc.heap.size wc wd := by rw [← hwd]; exact below_regrown wc dq osq
                rw [hwd]
                clear hwd hxlt hqlt HRX
                have HBD := Lib.hid (HBC.out.trans (hb3.mono HBC.out.size))
                have HJD := Lib.hid (HJC.out.below hb3)
                have HOD := Lib.hid (HOC.out.below hb3)
                have HXD := Lib.hid (HXC.out.below hb3 HXC.out.lt)
                clear HBC HJC HOC HXC
                clear hb3
                have m0 := HXD.out.cell 0; have m1 := HXD.out.cell 1
                have hxlt := HXD.out.lt
                simp at m0 m1
                go_wp2_with fail
                refine (hspoil_any E.2.here.next (.slice Am E.2.here.nodes.length cm) l wd wo.heap.size HOD.out).mono ?_
                rintro _ we ⟨rfl, hke⟩
                have HJE : Hid (J w.heap.size we p q (.slice Ao Os.length co) (.slice Aw Os.length cw) NoT E.2 E.2 Os) := Lib.hid (HJD.out.freed hke (fun b hb => ⟨hb, HSEP.out b (HOW.out b hb).1⟩))
                have HBE := Lib.hid (HBD.out.trans (hke.toBelow HBD.out.size (fun b hb => by have := (HOW.out b hb).1; have := HB.out.size; omega)))
                clear hke m0 m1 hxlt HJD HBD HXD HOD
                go_wp2_with fail
                refine (hsame_any p q E.2 we (Frz we p q (.slice Ao Os.length co) (.slice Aw Os.length cw) NoT) (fun b h => h.1) HJE.out.past HJE.out.rpast HJE.out.fits HJE.out.hereAll).mono ?_
                rintro _ w9 ⟨rfl, hb9⟩
                have HB9 := Lib.hid (HBE.out.trans (hb9.mono HBE.out.size))
                have HJ9 := Lib.hid (HJE.out.below hb9)
                clear hb9
                go_wp2
                go_roundg (acts.length - (i + 1))
                case measure => omega
                case rel => exact ⟨i + 1, p, q, _, _, E.2, Os, rfl, rfl, rfl, rfl, by go_num, rfl, by omega, by omega, by have := HOL.out; omega, HB9.out, HJ9.out⟩
              · obtain rfl := h1 (by rw [h0]; decide)
                clear h1 h2
                have HFA : Hid (E.2.Fits ∧ ∀ m ∈ E.2.list, ModAll m) := Lib.hid ⟨by unfold APast.Fits; rw [HLS.out]; exact HJ.out.fits, by rw [HLS.out]; exact HJ.out.all⟩
                have HJA : Hid (J w.heap.size wa p q (.slice Ao Os.length co) (.slice Aw Os.length cw) NoT E.2 P Os) := Lib.hid (HJ.out.stepP hka (fun b hb => .inr hb.elim) hpa (Frz.up hka.size (fun b hb => .inr hb.elim)) HFA.out.1 HFA.out.2)
                have HBA := Lib.hid (HB.out.trans (hka.toBelow HB.out.size (fun b e => by subst e; exact HJ.out.bp)))
                have HWA : Hid (wo.heap.size ≤ wa.heap.size) := Lib.hid hka.size
                clear hka hpa
                rw [h0]
                obtain ⟨xb, hxb⟩ : ∃ x, wa.heap.size = x := ⟨_, rfl⟩
                have HWE : Hid (∃ z, wa.alloc (.cells #[.int .i64 0, .slice none 0 0] 27) = z) := Lib.hid ⟨_, rfl⟩
                go_upto_region 32 with fail
                obtain ⟨wb, hu⟩ := HWE.out
                have HXB : Hid (Blk wb xb 27 #[.int .i64 0, .slice none 0 0]) := Lib.hid (by rw [← hu]; exact Blk.new' hxb.symm)
                have hb3 : Below wa.heap.size wa wb := by rw [← hu]; exact (Below.refl _ _).alloc (Nat.le_refl _) _
                have HLxb : Hid (wa.heap.size ≤ xb ∧ xb < wb.heap.size) := Lib.hid ⟨by omega, by rw [← hu, ← hxb]; simp⟩
                (try rw [hxb])
                (try rw [hu])
                clear HWE hu hxb
                have HBB := Lib.hid (HBA.out.trans (hb3.mono HBA.out.size))
                have HJB := Lib.hid (HJA.out.below hb3)
                clear HBA HJA
                clear hb3
                go_wp2_with fail
                refine (rredo_any q P wb (Frz wb p q (.slice Ao Os.length co) (.slice Aw Os.length cw) NoT) (fun b h => h.1) (fun h => h.2.2.1 rfl) HJB.out.rpast HJB.out.fitsq).mono ?_
                rintro _ wc ⟨rfl, hkc, hqc⟩
                rw [HEE.out] at hqc ⊢
                rw [h0]
                have HJC : Hid (J w.heap.size wc p q (.slice Ao Os.length co) (.slice Aw Os.length cw) NoT E.2 E.2 Os) := Lib.hid (HJB.out.stepQ hkc (fun _ h => .inl h) hqc (fun b hb => hb.elim (Frz.up hkc.size (fun _ h => .inl h) b) (fun h => by
                  obtain ⟨a1, a2, a3, a4⟩ := HJB.out.sep b h.1
                  exact ⟨h.2, a1, a2, a3, a4, fun e => e⟩)) HFA.out.1)
                have HBC := Lib.hid (HBB.out.trans (hkc.toBelow HBB.out.size (fun b e => by subst e; exact HJB.out.bq)))
                have HXC := Lib.hid (hkc.blk HXB.out (by have := HLxb.out; have := HWA.out; omega))
                clear hkc hqc HJB HBB HXB
                obtain ⟨A3, c3, X3, cx3, B3, d3, hbk, _, _, _, _, rx3, _⟩ := HJC.out.rpast.opened
                have HRX := Lib.hid rx3
                have m0 := HXC.out.cell 0; have m1 := HXC.out.cell 1
                have q1' := hbk.cell 1; have q2' := hbk.cell 2
                have hxlt := HXC.out.lt; have hqlt := hbk.lt
                simp at m0 m1 q1' q2'
                clear hbk rx3
                go_wp2_with fail
                have CS := Lib.hid (fun (d : Nat) (os : Array Obj) => Calls.regrown_of (w := wc) (d := d) (os := os) (by
                  have := res_is (eqB_yes (rfl : (⟨0, []⟩ : AModel) = ⟨0, []⟩)) (same_any none none 0 0 ⟨0, []⟩ ⟨0, []⟩ (Sort.grow (redrawn wc d) os) (fun b => False) (fun b => False) (fun b hx => hx.elim) (fun b hx => hx.elim) (RowOf.nil _) (RowOf.nil _) (by simp))
                  exact this))
                have k0 := cell_regrown m0; have k1 := cell_regrown m1; have k2 := cell_regrown q1'; have k3 := cell_regrown q2'
                clear m0 m1 q1' q2'
                refine wp_region_quiet_below (by kernel_rfl) (by kernel_rfl) ?_
                repeat (first | go_big_quiet_step (exact CS.out _ _) | quiet_step (exact CS.out _ _))
                refine wpQuiet_nil ?_
                intro _ hw'
                obtain ⟨⟨dq, osq⟩, hw''⟩ := hw'
                subst hw''
                clear k0 k1 k2 k3 CS
                obtain ⟨wd, hwd⟩ : ∃ x, Sort.grow (redrawn wc dq) osq = x := ⟨_, rfl⟩
                have hb3 : Below wc.heap.size wc wd := by rw [← hwd]; exact below_regrown wc dq osq
                rw [hwd]
                clear hwd hxlt hqlt HRX
                have HBD := Lib.hid (HBC.out.trans (hb3.mono HBC.out.size))
                have HJD := Lib.hid (HJC.out.below hb3)
                have HXD := Lib.hid (HXC.out.below hb3 HXC.out.lt)
                clear HBC HJC HXC
                clear hb3
                have m0 := HXD.out.cell 0; have m1 := HXD.out.cell 1
                have hxlt := HXD.out.lt
                simp at m0 m1
                go_wp2_with fail
                refine (hspoil_none 0 none 0 wd).mono ?_
                rintro _ we ⟨rfl, hke⟩
                have HJE := Lib.hid (HJD.out.below hke)
                have HBE := Lib.hid (HBD.out.trans (hke.mono HBD.out.size))
                clear hke m0 m1 hxlt HJD HBD HXD
                go_wp2_with fail
                refine (hsame_any p q E.2 we (Frz we p q (.slice Ao Os.length co) (.slice Aw Os.length cw) NoT) (fun b h => h.1) HJE.out.past HJE.out.rpast HJE.out.fits HJE.out.hereAll).mono ?_
                rintro _ w9 ⟨rfl, hb9⟩
                have HB9 := Lib.hid (HBE.out.trans (hb9.mono HBE.out.size))
                have HJ9 := Lib.hid (HJE.out.below hb9)
                clear hb9
                go_wp2
                go_roundg (acts.length - (i + 1))
                case measure => omega
                case rel => exact ⟨i + 1, p, q, _, _, E.2, Os, rfl, rfl, rfl, rfl, by go_num, rfl, by omega, by omega, by have := HOL.out; omega, HB9.out, HJ9.out⟩
            by_cases hk4 : kd = 4
            · subst hk4
              have hOl : Os.length ≤ 200 := by have := HOL.out; omega
              have HRO : Hid ((wo.alloc (.cells #[.pointer (some ⟨p, 0, none⟩)] 29)).ownsRow w.heap.size 29 1 (.slice Ao Os.length co) Os.length (Os.map Old.pp)) := Lib.hid (own_keep HJ.out.ro fun b e => Below.heap_alloc _ _ _ (HJ.out.ro.lt b e).2)
              have hbw : w.heap.size ≤ (wo.alloc (.cells #[.pointer (some ⟨p, 0, none⟩)] 29)).heap.size := by have := HB.out.size; simp; omega
              go_wp2_with (at_builtin; refine wpList_append_from _ rfl (.tmp 173) (.tmp 175) 37 rfl w.heap.size 29 Try.underlying37 hpp_info ?u1 ?u2 (.slice Ao Os.length co) Os.length (Os.map Old.pp) ?u3 HRO.out (some ⟨wo.heap.size, 0, none⟩) 1 1 [.pointer (some ⟨p, 0, none⟩)] ?u4 ?u5 ?u6 (fun ad e => by cases e; exact news_cells (Blk.new wo 29 #[.pointer (some ⟨p, 0, none⟩)])) ?u7 ?u8 ?u9 ?u10 ?u11)
              try (case u1 => rfl)
              try (case u2 => omega)
              try (case u3 => rfl)
              try (case u4 => rfl)
              try (case u5 => rfl)
              try (case u6 => intro e; cases e)
              try (case u7 => intro u hu; simp at hu; subst hu; rfl)
              try (case u8 => unfold maxLen; omega)
              try (case u9 => omega)
              try (case u10 => exact hbw)
              case u11 =>
                intro A7 c7 w7 hownu hgu hatu
                have HRO7 := Lib.hid hownu
                have HG7 : Hid (∀ b, b < wo.heap.size → ((.slice Ao Os.length co) : Value).ownBlock ≠ some b → w7.heap[b]? = wo.heap[b]?) := Lib.hid (fun b hb hne => (hgu.block b (by simp; omega) (fun e => hne e.symm)).trans (Below.heap_alloc _ _ _ hb))
                have HS7 : Hid (wo.heap.size + 1 ≤ w7.heap.size) := Lib.hid (by have := hgu.size; simp at this; omega)
                have HT7 : Hid ((.slice A7 (Os.length + 1) c7 : Value).ownBlock = ((.slice Ao Os.length co) : Value).ownBlock ∨ (.slice A7 (Os.length + 1) c7 : Value).ownBlock = some (wo.heap.size + 1)) := Lib.hid (by simpa using hatu)
                have HB7 : Hid (Below w.heap.size w w7) := Lib.hid ((HB.out.alloc HB.out.size _).grown hgu hbw (fun k e => (HJ.out.ro.lt k e).1))
                clear hownu hgu hatu hbw HRO
                have HRW : Hid ((w7.alloc (.cells #[.pointer (some ⟨q, 0, none⟩)] 33)).ownsRow w.heap.size 33 1 (.slice Aw Os.length cw) Os.length (Os.map Old.qq)) := Lib.hid (own_keep HJ.out.rw fun b e => (Below.heap_alloc _ _ _ (by have := (HJ.out.rw.lt b e).2; have := HS7.out; omega)).trans (HG7.out b (HJ.out.rw.lt b e).2 (fun e2 => (HJ.out.so b e2).2.2 e)))
                have hbw : w.heap.size ≤ (w7.alloc (.cells #[.pointer (some ⟨q, 0, none⟩)] 33)).heap.size := by have := HB7.out.size; simp; omega
                go_wp2_with (at_builtin; refine wpList_append_from _ rfl (.tmp 177) (.tmp 179) 38 rfl w.heap.size 33 Try.underlying38 hqq_info ?v1 ?v2 (.slice Aw Os.length cw) Os.length (Os.map Old.qq) ?v3 HRW.out (some ⟨w7.heap.size, 0, none⟩) 1 1 [.pointer (some ⟨q, 0, none⟩)] ?v4 ?v5 ?v6 (fun ad e => by cases e; exact news_cells (Blk.new w7 33 #[.pointer (some ⟨q, 0, none⟩)])) ?v7 ?v8 ?v9 ?v10 ?v11)
                try (case v1 => rfl)
                try (case v2 => omega)
                try (case v3 => rfl)
                try (case v4 => rfl)
                try (case v5 => rfl)
                try (case v6 => intro e; cases e)
                try (case v7 => intro u hu; simp at hu; subst hu; rfl)
                try (case v8 => unfold maxLen; omega)
                try (case v9 => omega)
                try (case v10 => exact hbw)
                case v11 =>
                  intro A8 c8 w8 hownv hgv hatv
                  have HRW8 := Lib.hid hownv
                  have HS8 : Hid (w7.heap.size + 1 ≤ w8.heap.size) := Lib.hid (by have := hgv.size; simp at this; omega)
                  have HT8 : Hid ((.slice A8 (Os.length + 1) c8 : Value).ownBlock = ((.slice Aw Os.length cw) : Value).ownBlock ∨ (.slice A8 (Os.length + 1) c8 : Value).ownBlock = some (w7.heap.size + 1)) := Lib.hid (by simpa using hatv)
                  have HB8 : Hid (Below w.heap.size w w8) := Lib.hid ((HB7.out.alloc HB7.out.size _).grown hgv hbw (fun k e => (HJ.out.rw.lt k e).1))
                  have HG78 : Hid (∀ b, b < w7.heap.size → ((.slice Aw Os.length cw) : Value).ownBlock ≠ some b → w8.heap[b]? = w7.heap[b]?) := Lib.hid (fun b hb hne => (hgv.block b (by simp; omega) (fun e => hne e.symm)).trans (Below.heap_alloc _ _ _ hb))
                  have HG8 : Hid (∀ b, b < wo.heap.size → ((.slice Ao Os.length co) : Value).ownBlock ≠ some b → ((.slice Aw Os.length cw) : Value).ownBlock ≠ some b → w8.heap[b]? = wo.heap[b]?) := Lib.hid (fun b hb h1 h2 => (HG78.out b (by have := HS7.out; omega) h2).trans (HG7.out b hb h1))
                  have HRO8 : Hid (w8.ownsRow w.heap.size 29 1 (.slice A7 (Os.length + 1) c7) (Os.length + 1) (Os.map Old.pp ++ [.pointer (some ⟨p, 0, none⟩)])) := Lib.hid (own_keep HRO7.out fun b e => HG78.out b (HRO7.out.lt b e).2 (fun e2 => by
                    have h1 := (HJ.out.rw.lt b e2).2
                    rcases HT7.out with h | h
                    · rw [h] at e; exact (HJ.out.so b e).2.2 e2
                    · rw [h] at e; injection e with e; omega))
                  have HP8 : Hid (IsPast w8 (Frz wo p q (.slice Ao Os.length co) (.slice Aw Os.length cw) NoT) p P) := Lib.hid (HJ.out.past.keep (fun a ha => World.cell?_of_block (HG8.out _ ha.1 ha.2.2.2.1 ha.2.2.2.2.1)) (fun _ h => h) (HG8.out p HJ.out.plt (fun e => (HJ.out.so p e).1 rfl) (fun e => (HJ.out.sw p e).1 rfl)))
                  have HQ8 : Hid (IsRPast w8 (Frz wo p q (.slice Ao Os.length co) (.slice Aw Os.length cw) NoT) q P) := Lib.hid (HJ.out.rpast.keep (fun a ha => World.cell?_of_block (HG8.out _ ha.1 ha.2.2.2.1 ha.2.2.2.2.1)) (fun _ h => h) (HG8.out q HJ.out.qlt (fun e => (HJ.out.so q e).2.1 rfl) (fun e => (HJ.out.sw q e).2 rfl)))
                  have HSZ : Hid (wo.heap.size ≤ w8.heap.size ∧ w.heap.size ≤ wo.heap.size) := Lib.hid ⟨by have := HS7.out; have := HS8.out; omega, HB.out.size⟩
                  clear hownv hgv hatv hbw HRW HRO7 HG7 HG78 HB7
                  go_wp2_with fail
                  refine (copy_any p P w8 (Frz wo p q (.slice Ao Os.length co) (.slice Aw Os.length cw) NoT) (fun b h => Nat.lt_of_lt_of_le h.1 HSZ.out.1) HP8.out).mono ?_
                  rintro _ w9 ⟨p2, rfl, hp2, hpast, hb⟩
                  have HP9 := Lib.hid hpast; have HP2 := Lib.hid hp2
                  have HB89 := Lib.hid hb
                  have HQ9 := Lib.hid (HQ8.out.below hb (fun b h => Nat.lt_of_lt_of_le h.1 HSZ.out.1))
                  clear hpast hb hp2
                  go_wp2_with fail
                  refine (rcopy_any q P w9 (Frz wo p q (.slice Ao Os.length co) (.slice Aw Os.length cw) NoT) (fun b h => by have := h.1; have := HSZ.out.1; have := HB89.out.size; omega) HQ9.out HJ.out.fits).mono ?_
                  rintro _ w10 ⟨q2, rfl, hb, hq2, hrp⟩
                  have HJX : Hid (J w.heap.size w10 p2 q2 (.slice A7 (Os.length + 1) c7) (.slice A8 (Os.length + 1) c8) NoT P P (Os ++ [⟨p, q, P⟩])) := Lib.hid (by
                    have hp2 := HP2.out; have hp2l := HP9.out.lt; have hq2l := hrp.lt; have hsz := HSZ.out; have h89 := HB89.out.size; have h910 := hb.size; have hs7 := HS7.out; have hs8 := HS8.out
                    have hB : Below w8.heap.size w8 w10 := HB89.out.trans (hb.mono h89)
                    have lo : ∀ b, (.slice A7 (Os.length + 1) c7 : Value).ownBlock = some b → b < w8.heap.size := fun b e => (HRO8.out.lt b e).2
                    have lw : ∀ b, (.slice A8 (Os.length + 1) c8 : Value).ownBlock = some b → b < w8.heap.size := fun b e => (HRW8.out.lt b e).2
                    have neow : ∀ b, (.slice A7 (Os.length + 1) c7 : Value).ownBlock = some b → (.slice A8 (Os.length + 1) c8 : Value).ownBlock ≠ some b := fun b e e2 => by
                      rcases HT7.out with h | h <;> rcases HT8.out with h' | h' <;> rw [h] at e <;> rw [h'] at e2
                      · exact (HJ.out.so b e).2.2 e2
                      · have := (HJ.out.ro.lt b e).2; injection e2 with e2; omega
                      · have := (HJ.out.rw.lt b e2).2; injection e with e; omega
                      · injection e with e; injection e2 with e2; omega
                    have ho : ∀ b, (.slice A7 (Os.length + 1) c7 : Value).ownBlock = some b → ((.slice Ao Os.length co) : Value).ownBlock = some b ∨ wo.heap.size ≤ b := fun b e => by
                      rcases HT7.out with h | h
                      · rw [h] at e; exact .inl e
                      · rw [h] at e; injection e with e; exact .inr (by omega)
                    have hw : ∀ b, (.slice A8 (Os.length + 1) c8 : Value).ownBlock = some b → ((.slice Aw Os.length cw) : Value).ownBlock = some b ∨ wo.heap.size ≤ b := fun b e => by
                      rcases HT8.out with h | h
                      · rw [h] at e; exact .inl e
                      · rw [h] at e; injection e with e; exact .inr (by omega)
                    have hfr : ∀ b, (Frz wo p q (.slice Ao Os.length co) (.slice Aw Os.length cw) NoT) b → Frz w10 p2 q2 (.slice A7 (Os.length + 1) c7) (.slice A8 (Os.length + 1) c8) NoT b := fun b hx => by
                      have hx1 := hx.1
                      exact ⟨by omega, by omega, by omega, fun e => (ho b e).elim hx.2.2.2.1 (fun h => by omega), fun e => (hw b e).elim hx.2.2.2.2.1 (fun h => by omega), fun e => e⟩
                    exact HJ.out.copy (F1 := (Frz wo p q (.slice Ao Os.length co) (.slice Aw Os.length cw) NoT)) (F2 := fun b => (Frz wo p q (.slice Ao Os.length co) (.slice Aw Os.length cw) NoT) b ∨ (w9.heap.size ≤ b ∧ b < q2)) (by omega) (fun b hl h1 h2 => (hB.block b (by omega)).trans (HG8.out b hl h1 h2)) (own_keep HRO8.out fun b e => hB.block b (lo b e)) (own_keep HRW8.out fun b e => hB.block b (lw b e)) ho hw
                      (fun b e => ⟨by have := lo b e; omega, by have := lo b e; omega, neow b e⟩) (fun b e => ⟨by have := lw b e; omega, by have := lw b e; omega⟩) (by omega) (by omega) (by omega) hsz.2
                      (HP9.out.below hb (fun b h => by have := h.1; omega)) hfr hrp (fun b hx => hx.elim (hfr b) (fun h => ⟨by omega, by omega, by omega, fun e => by have := lo b e; omega, fun e => by have := lw b e; omega, fun e => e⟩)))
                  have HBX := Lib.hid (HB8.out.trans ((HB89.out.trans (hb.mono HB89.out.size)).mono HB8.out.size))
                  have hlx : (Os ++ [(⟨p, q, P⟩ : Old)]).length = Os.length + 1 := by simp
                  have HLX := Lib.hid hlx
                  clear hlx hb hq2 hrp HP9 HP2 HB89 HQ9 HP8 HQ8 HRO8 HRW8 HG8 HS7 HS8 HT7 HT8 HB8 HSZ
                  go_wp2_with fail
                  refine (hsame_any p2 q2 P w10 (Frz w10 p2 q2 (.slice A7 (Os.length + 1) c7) (.slice A8 (Os.length + 1) c8) NoT) (fun b h => h.1) HJX.out.past HJX.out.rpast HJX.out.fits HJX.out.hereAll).mono ?_
                  rintro _ w9 ⟨rfl, hb9⟩
                  have HB9 := Lib.hid (HBX.out.trans (hb9.mono HBX.out.size))
                  have HJ9 := Lib.hid (HJX.out.below hb9)
                  clear hb9
                  go_wp2
                  go_roundg (acts.length - (i + 1))
                  case measure => omega
                  case rel => exact ⟨i + 1, p2, q2, _, _, P, Os ++ [⟨p, q, P⟩], rfl, rfl, rfl, rfl, by go_num, rfl, by omega, by omega, by rw [HLX.out]; have := HOL.out; omega, HB9.out, HJ9.out⟩
            have q0 : (kd == 0) = false := beq_eq_false_iff_ne.2 hk0
            have q1 : (kd == 1) = false := beq_eq_false_iff_ne.2 hk1
            have q2 : (kd == 2) = false := beq_eq_false_iff_ne.2 hk2
            have q3 : (kd == 3) = false := beq_eq_false_iff_ne.2 hk3
            have q4 : (kd == 4) = false := beq_eq_false_iff_ne.2 hk4
            go_wp2_with fail
            refine (hsame_any p q P wo (Frz wo p q (.slice Ao Os.length co) (.slice Aw Os.length cw) NoT) (fun b h => h.1) HJ.out.past HJ.out.rpast HJ.out.fits HJ.out.hereAll).mono ?_
            rintro _ w9 ⟨rfl, hb9⟩
            have HB9 := Lib.hid (HB.out.trans (hb9.mono HB.out.size))
            have HJ9 := Lib.hid (HJ.out.below hb9)
            clear hb9
            go_wp2
            go_roundg (acts.length - (i + 1))
            case measure => omega
            case rel => exact ⟨i + 1, p, q, _, _, P, Os, rfl, rfl, rfl, rfl, by go_num, rfl, by omega, by omega, by have := HOL.out; omega, HB9.out, HJ9.out⟩
          · have h201 : decide ((i : Int) < 200) = false := decide_eq_false (by omega)
            have hOl : Os.length ≤ 200 := by have := HOL.out; omega
            go_wp2_with fail
            go_loopg [21] Os.length (fun g s21 wx => ∃ j : Nat, s21 = .int .i64 j ∧ g = Os.length - j ∧ j ≤ Os.length ∧ Below wo.heap.size wo wx)
            case atStart => exact ⟨0, rfl, rfl, Nat.zero_le _, Below.refl _ _⟩
            case round =>
              obtain ⟨j, rfl, rfl, hjl, hb⟩ := hrel
              have HB2 := Lib.hid hb
              have HJW := Lib.hid (HJ.out.below hb)
              clear hb
              have j0 : (0 : Int) ≤ j := by omega
              by_cases hjt : j < Os.length
              · have hjt' : (j : Int) < Os.length := by omega
                obtain ⟨g, cap, e0, hcap, _, _, hglt⟩ := own_some HJW.out.ro (by omega)
                injection e0 with e1 _ e2
                subst e1; subst e2
                obtain ⟨g2, cap2, e0, hcap2, _, _, hglt2⟩ := own_some HJW.out.rw (by omega)
                injection e0 with e1 _ e2
                subst e1; subst e2
                obtain ⟨o, ho⟩ : ∃ o, Os[j] = o := ⟨_, rfl⟩
                have HOK : Hid (OldOK wr (Frz wr p q (.slice (some ⟨g, 0, none⟩) Os.length co) (.slice (some ⟨g2, 0, none⟩) Os.length cw) NoT) o) := Lib.hid (HJW.out.olds o (by rw [← ho]; exact List.getElem_mem hjt))
                have d0 := own_cell HJW.out.ro j (by omega)
                have d1 := own_cell HJW.out.rw j (by omega)
                rw [List.getElem?_map, List.getElem?_eq_getElem hjt, ho] at d0 d1
                simp [Old.pp, Old.qq] at d0 d1
                clear ho
                go_wp2_with fail
                have CS := Lib.hid (fun (d : Nat) (os : Array Obj) => Calls.regrown_of (w := wr) (d := d) (os := os) (by
                  have hbr := below_regrown wr d os
                  have := hsame_any o.p o.q o.P (Sort.grow (redrawn wr d) os) (Frz wr p q (.slice (some ⟨g, 0, none⟩) Os.length co) (.slice (some ⟨g2, 0, none⟩) Os.length cw) NoT) (fun b h => Nat.lt_of_lt_of_le h.1 hbr.size) (HOK.out.past.below hbr (fun b h => h.1)) (HOK.out.rpast.below hbr (fun b h => h.1)) HOK.out.fits HOK.out.all
                  exact this))
                have k0 := cell_regrown d0; have k1 := cell_regrown d1
                clear d0 d1
                refine wp_region_quiet_below (by kernel_rfl) (by kernel_rfl) ?_
                repeat (first | go_big_quiet_step (exact CS.out _ _) | quiet_step (exact CS.out _ _))
                refine wpQuiet_nil ?_
                intro _ hw'
                obtain ⟨⟨dq, osq⟩, hw''⟩ := hw'
                subst hw''
                clear k0 k1 CS
                have HB3 := Lib.hid (HB2.out.trans ((below_regrown wr dq osq).mono HB2.out.size))
                go_wp2
                go_roundg (Os.length - (j + 1))
                case measure => omega
                case rel => exact ⟨j + 1, by go_num, rfl, by omega, HB3.out⟩
              · have hjt' : ¬ (j : Int) < Os.length := by omega
                have HBE := Lib.hid (HB.out.trans (HB2.out.mono HB.out.size))
                clear HJW
                go_wp2
                go_ret
                exact ⟨by simp, HBE.out⟩
        · have hlt1 : ¬ (i : Int) < acts.length := by omega
          have hlt2 : decide ((i : Int) < acts.length) = false := decide_eq_false hlt1
          have hOl : Os.length ≤ 200 := by have := HOL.out; omega
          go_wp2_with fail
          go_loopg [21] Os.length (fun g s21 wx => ∃ j : Nat, s21 = .int .i64 j ∧ g = Os.length - j ∧ j ≤ Os.length ∧ Below wo.heap.size wo wx)
          case atStart => exact ⟨0, rfl, rfl, Nat.zero_le _, Below.refl _ _⟩
          case round =>
            obtain ⟨j, rfl, rfl, hjl, hb⟩ := hrel
            have HB2 := Lib.hid hb
            have HJW := Lib.hid (HJ.out.below hb)
            clear hb
            have j0 : (0 : Int) ≤ j := by omega
            by_cases hjt : j < Os.length
            · have hjt' : (j : Int) < Os.length := by omega
              obtain ⟨g, cap, e0, hcap, _, _, hglt⟩ := own_some HJW.out.ro (by omega)
              injection e0 with e1 _ e2
              subst e1; subst e2
              obtain ⟨g2, cap2, e0, hcap2, _, _, hglt2⟩ := own_some HJW.out.rw (by omega)
              injection e0 with e1 _ e2
              subst e1; subst e2
              obtain ⟨o, ho⟩ : ∃ o, Os[j] = o := ⟨_, rfl⟩
              have HOK : Hid (OldOK wr (Frz wr p q (.slice (some ⟨g, 0, none⟩) Os.length co) (.slice (some ⟨g2, 0, none⟩) Os.length cw) NoT) o) := Lib.hid (HJW.out.olds o (by rw [← ho]; exact List.getElem_mem hjt))
              have d0 := own_cell HJW.out.ro j (by omega)
              have d1 := own_cell HJW.out.rw j (by omega)
              rw [List.getElem?_map, List.getElem?_eq_getElem hjt, ho] at d0 d1
              simp [Old.pp, Old.qq] at d0 d1
              clear ho
              go_wp2_with fail
              have CS := Lib.hid (fun (d : Nat) (os : Array Obj) => Calls.regrown_of (w := wr) (d := d) (os := os) (by
                have hbr := below_regrown wr d os
                have := hsame_any o.p o.q o.P (Sort.grow (redrawn wr d) os) (Frz wr p q (.slice (some ⟨g, 0, none⟩) Os.length co) (.slice (some ⟨g2, 0, none⟩) Os.length cw) NoT) (fun b h => Nat.lt_of_lt_of_le h.1 hbr.size) (HOK.out.past.below hbr (fun b h => h.1)) (HOK.out.rpast.below hbr (fun b h => h.1)) HOK.out.fits HOK.out.all
                exact this))
              have k0 := cell_regrown d0; have k1 := cell_regrown d1
              clear d0 d1
              refine wp_region_quiet_below (by kernel_rfl) (by kernel_rfl) ?_
              repeat (first | go_big_quiet_step (exact CS.out _ _) | quiet_step (exact CS.out _ _))
              refine wpQuiet_nil ?_
              intro _ hw'
              obtain ⟨⟨dq, osq⟩, hw''⟩ := hw'
              subst hw''
              clear k0 k1 CS
              have HB3 := Lib.hid (HB2.out.trans ((below_regrown wr dq osq).mono HB2.out.size))
              go_wp2
              go_roundg (Os.length - (j + 1))
              case measure => omega
              case rel => exact ⟨j + 1, by go_num, rfl, by omega, HB3.out⟩
            · have hjt' : ¬ (j : Int) < Os.length := by omega
              have HBE := Lib.hid (HB.out.trans (HB2.out.mono HB.out.size))
              clear HJW
              go_wp2
              go_ret
              exact ⟨by simp, HBE.out⟩
    · obtain rfl := hno (by rw [hE]; decide)
      have HRC := Lib.hid ((right_check m0).2 hE)
      rw [hE]
      clear hE hyes hno
      go_wp2_with fail
      refine (rnew_any S2 cs2 m0 w4 (· < w.heap.size) hw4 HRW.out HZ0.out).mono ?_
      rintro _ w5 ⟨q0, rfl, hb, hq0, hrp⟩
      have HB5 := Lib.hid (HB4.out.trans (hb.mono HB4.out.size))
      rw [HRC.out]
      clear hb hrp
      go_wp2
      go_ret
      exact ⟨by simp, HB5.out⟩
end Go.Proofs.Ytpjkifbicfcajaa
