/- the law of the way back -/
import Derived.Test.YtpjkifbicfcajaaBackP
import Derived.Test.YtpjkifbicfcajaaAwake
import Derived.Test.YtpjkifbicfcajaaHGreat
set_option linter.unusedSimpArgs false
set_option linter.unusedVariables false
namespace Go.Proofs.Ytpjkifbicfcajaa
open Go Go.RowKit

theorem mdl_info : (Try.prog.info? 27).map (fun i => (i.zero, i.size, i.bytes)) = some (some (.agg #[.int .i64 0, .slice none 0 0]), 2, 32) := by kernel_rfl

theorem own_one {w : World} {g base : Nat} {F : Nat → Prop} {m : AModel} {x : Value} (hb : Blk w g 27 #[.int .i64 m.next, x]) (hg : base ≤ g) (hx : EModel w (Oth F w (.slice (some ⟨g, 0, none⟩) [m].length 1)) m [.int .i64 m.next, x]) : OwnRow 2 27 EModel F w base (.slice (some ⟨g, 0, none⟩) [m].length 1) [m] := by
  refine ⟨[[.int .i64 m.next, x]], rfl, fun cs h => by rw [List.mem_singleton.1 h]; rfl, ⟨rfl, .inr ⟨g, 1, _, rfl, hg, hb, Nat.le_refl _, by unfold maxLen; omega, rfl, rfl⟩⟩, fun i hi hi' => ?_⟩
  · have hi0 : i = 0 := by simp at hi; omega
    subst hi0
    exact hx

set_option maxRecDepth 100000 in
set_option maxHeartbeats 8000000 in
theorem back_any (A : Option Addr) (c : Nat) (L : List AModel) (w : World) (hL : RowOf 2 EModel w (· < w.heap.size) A L) (hz : ∀ m ∈ L, ModAll m) (hln : L.length ≤ 9223372036854775807) :
    Calls Try.prog 5 #[.slice A L.length c] w fun e w' => e = .returned (.bool true) ∧ Below w.heap.size w w' := by
  have HL : Hid (∀ V, Below w.heap.size w V → RowOf 2 EModel V (· < w.heap.size) A L) := Lib.hid (fun V hb => hL.keep EModel.stays (Keep.below hb (fun _ h => h)) (fun _ h => h))
  have HZ := Lib.hid hz
  clear hL hz
  go_enter Try.func5, Try.ntmps5
  go_wp2_with fail
  refine (awake_any w).mono ?_
  rintro _ w1 ⟨rfl, hb⟩
  have HB1 := Lib.hid hb
  clear hb
  go_wp2_with fail
  refine (great_any A c L w1 (· < w.heap.size) (fun b h => Nat.lt_of_lt_of_le h HB1.out.size) (HL.out w1 HB1.out) HZ.out hln).mono ?_
  rintro _ w2 ⟨⟨gb, rfl⟩, hb⟩
  have HB2 := Lib.hid (HB1.out.trans (hb.mono HB1.out.size))
  clear hb HB1
  cases gb
  case true =>
    go_wp2
    go_ret
    exact ⟨by simp, HB2.out⟩
  case false =>
    by_cases hL0 : L.length = 0
    · have hL0' : decide ((L.length : Int) = 0) = true := decide_eq_true (by omega)
      have hL0'' : (L.length : Int) = 0 := by omega
      go_wp2
      go_ret
      exact ⟨by simp, HB2.out⟩
    by_cases hL1 : L.length > 64
    · have hL0' : decide ((L.length : Int) = 0) = false := decide_eq_false (by omega)
      have hL1' : decide ((L.length : Int) > 64) = true := decide_eq_true (by omega)
      go_wp2
      go_ret
      exact ⟨by simp, HB2.out⟩
    have hL0' : decide ((L.length : Int) = 0) = false := decide_eq_false (by omega)
    have hL1' : decide ((L.length : Int) > 64) = false := decide_eq_false (by omega)
    have hL2 : (0 : Int) < L.length := by omega
    have hL3 : L.length ≤ 64 := by omega
    have hL4 : 0 < L.length := by omega
    have HMA := Lib.hid (model_cells (fun _ h => h) (HL.out w (Below.refl _ _)))
    obtain ⟨m0, hm0⟩ : ∃ m, L[0] = m := ⟨_, rfl⟩
    have HZ0 : Hid (ModAll m0) := Lib.hid (by rw [← hm0]; exact HZ.out _ (List.getElem_mem _))
    obtain ⟨bA, offA, S, cs, rfl, k1, k2, hcm⟩ := HMA.out 0 hL4
    rw [hm0] at k1 hcm
    have HCM : Hid (∀ V, Below w.heap.size w V → V.cell? ⟨bA, offA, none⟩ = some (.int .i64 m0.next) ∧ V.cell? ⟨bA, offA + 1, none⟩ = some (.slice S m0.nodes.length cs) ∧ RowOf 7 ENode V (· < w.heap.size) S m0.nodes) := Lib.hid hcm
    have HKC : Hid (m0.nodes.length ≤ cs ∧ cs ≤ maxLen) := Lib.hid ⟨k1, k2⟩
    obtain ⟨d0', d1', _⟩ := HCM.out w2 HB2.out
    clear hm0 k1 k2 hcm
    have hw2 : ∀ b, b < w.heap.size → b < w2.heap.size := fun b hb => Nat.lt_of_lt_of_le hb HB2.out.size
    go_wp2_with fail
    clear d0' d1'
    refine (new_fp (m := m0) cs (F := (· < w.heap.size)) hw2 (HCM.out w2 HB2.out).2.2 HZ0.out).mono ?_
    rintro _ w3 ⟨pv, rfl, hb, hno, hyes⟩
    have HB3 := Lib.hid (HB2.out.trans (hb.mono HB2.out.size))
    rcases checkI_two m0 with hE | hE
    rotate_left 1
    · obtain rfl := hno (by rw [hE]; decide)
      rw [hE]
      clear hno hyes hb hw2
      go_wp2
      go_ret
      exact ⟨by simp, HB3.out⟩
    obtain ⟨p, rfl, hpl, hP⟩ := hyes hE
    rw [hE]
    have HP3 := Lib.hid hP
    have HPL : Hid (w.heap.size ≤ p) := Lib.hid (by have := HB2.out.size; omega)
    clear hno hyes hP hpl hE hb hw2 HB2
    obtain ⟨c0, c1, _⟩ := HCM.out w3 HB3.out
    obtain ⟨g, hg⟩ : ∃ x, w3.heap.size = x := ⟨_, rfl⟩
    have HWE : Hid (∃ z, w3.alloc (.cells #[.int .i64 m0.next, .slice S m0.nodes.length cs] 27) = z) := Lib.hid ⟨_, rfl⟩
    go_wp2_with fail
    obtain ⟨w4, hw4⟩ := HWE.out
    have hnew : Blk w4 g 27 #[.int .i64 m0.next, .slice S m0.nodes.length cs] := by rw [← hw4]; exact Blk.new' hg.symm
    have hb : Below w3.heap.size w3 w4 := by rw [← hw4]; exact (Below.refl _ _).alloc (Nat.le_refl _) _
    (try rw [hw4])
    (try rw [hg])
    have HB4 := Lib.hid (HB3.out.trans (hb.mono HB3.out.size))
    have HO4 : Hid (OwnRow 2 27 EModel (· < w.heap.size) w4 w.heap.size (.slice (some ⟨g, 0, none⟩) [m0].length 1) [m0]) := Lib.hid (own_one hnew (by have := HB3.out.size; omega) ⟨_, rfl, S, cs, rfl, HKC.out.1, HKC.out.2, RowOf.keep ENode.stays (Keep.refl _ _) (fun b h => ⟨h, by have := HB4.out.size; omega, fun e => by injection e with e; have e : g = b := e; have := HB3.out.size; omega⟩) (HCM.out w4 HB4.out).2.2⟩)
    have HP4 : Hid (IsPast w4 (FQ w4 p (.slice (some ⟨g, 0, none⟩) [m0].length 1)) p (Zip [m0] 0)) := Lib.hid ((HP3.out.below hb (fun _ h => h.1)).keep (Keep.refl _ _) (fun b h => ⟨Nat.lt_of_lt_of_le h.1 hb.size, h.2, fun e => by injection e with e; have e : g = b := e; have := h.1; omega⟩) rfl)
    have HGP : Hid (g ≠ p) := Lib.hid (by have := HP3.out.lt; omega)
    clear HWE hw4 hg hnew hb HB3 HP3 HCM HKC c0 c1
    go_loopg [5, 6, 7, 8] (L.length - 1) (fun g s5 s6 s7 s8 wx => ∃ (i t : Nat) (K : List AModel) (v : Value), s5 = v ∧ s6 = .int .i64 i ∧ g = L.length - i ∧ i ≤ L.length ∧ t + 1 = K.length ∧ K.length ≤ i ∧ (∀ m ∈ K, ModAll m) ∧ Below w.heap.size w wx ∧ OwnRow 2 27 EModel (· < w.heap.size) wx w.heap.size v K ∧ v.ownBlock ≠ some p ∧ IsPast wx (FQ wx p v) p (Zip K t))
    case atStart => exact ⟨1, 0, [m0], _, rfl, rfl, rfl, by omega, rfl, by simp, fun m hm => by rw [List.mem_singleton.1 hm]; exact HZ0.out, HB4.out, HO4.out, fun e => HGP.out (by injection e), HP4.out⟩
    case round =>
      clear HB4 HO4 HP4 HGP HZ0
      obtain ⟨i, t, K, v, hv, rfl, hg, hil, htK, hKi, hka, hb, ho, hvp, hp⟩ := hrel
      obtain ⟨Av, cv, rfl⟩ : ∃ A c, v = .slice A (t + 1) c := by
        obtain ⟨xs, hx⟩ := ho.owns
        rw [htK]
        exact own_shape hx
      subst hv
      have HB := Lib.hid hb; have HO := Lib.hid ho; have HP := Lib.hid hp; have HVP := Lib.hid hvp; have HKA := Lib.hid hka; have HG := Lib.hid hg
      have HOG := Lib.hid (own_ge ho)
      obtain ⟨y, hy⟩ : ∃ y, K[t]! = y := ⟨_, rfl⟩
      have HY := Lib.hid hy
      clear hy
      have hti : t + 1 ≤ i := by omega
      have HTK := Lib.hid htK
      clear hb ho hp hvp hka hg htK hKi
      have i0 : (0 : Int) ≤ i := by omega
      by_cases hlt : i < L.length
      · have hlt' : (i : Int) < L.length := by omega
        obtain ⟨b2, off2, S', cs', e2, k1, k2, hcm⟩ := HMA.out i hlt
        injection e2 with e2
        injection e2 with e2a e2b
        subst e2a; subst e2b
        have hzm := HZ.out _ (List.getElem_mem hlt)
        obtain ⟨m, hm⟩ : ∃ m, L[i] = m := ⟨_, rfl⟩
        rw [hm] at k1 hcm hzm
        have HCM := Lib.hid hcm; have HZM := Lib.hid hzm; have HKC := Lib.hid (And.intro k1 k2)
        clear hm k1 k2 hcm hzm
        have HCK : Hid (∀ V, Below w.heap.size w V → Calls Try.prog 30 #[.agg #[.int .i64 m.next, .slice S' m.nodes.length cs']] V fun e w' => e = .returned (.int .i64 (checkI m)) ∧ Below V.heap.size V w') := Lib.hid (fun V hb => check_any S' cs' m V (· < w.heap.size) (fun b h => Nat.lt_of_lt_of_le h hb.size) (HCM.out V hb).2.2 (fun x h => (HZM.out.1 x h).1) (by have := HZM.out.2.2; omega))
        have HPU : Hid (∀ V, Below w.heap.size w V → IsPast V (FQ V p (.slice Av (t + 1) cv)) p (Zip K t) → Calls Try.prog 16 #[.pointer (some ⟨p, 0, none⟩), .agg #[.int .i64 m.next, .slice S' m.nodes.length cs']] V fun e w' => e = .returned (.int .i64 (pushP (Zip K t) m).1) ∧ KeepO (· = p) V w' ∧ IsPast w' (fun b => FQ V p (.slice Av (t + 1) cv) b ∨ (V.heap.size ≤ b ∧ b < w'.heap.size)) p (pushP (Zip K t) m).2) := Lib.hid (fun V hb hp => push_any p (Zip K t) S' cs' m V _ (· < w.heap.size) (fun b h => h.1) (fun b h => Nat.lt_of_lt_of_le h hb.size) (fun h => h.2.1 rfl) hp (Zip_fits (by have := HTK.out; omega) (by have := HTK.out; omega)) (HCM.out V hb).2.2 HZM.out)
        rcases checkI_two m with hE | hE
        rotate_left 1
        · rw [hE] at HCK
          obtain ⟨d0, d1, _⟩ := HCM.out wr HB.out
          go_wp2_with fail
          clear d0 d1
          refine (HCK.out wr HB.out).mono ?_
          rintro _ w5 ⟨rfl, hb⟩
          have HB5 := Lib.hid (HB.out.trans (hb.mono HB.out.size))
          have HO5 := Lib.hid (HO.out.below EModel.stays hb)
          have HP5 := Lib.hid (past_below HP.out hb)
          clear hb HB HO HP
          obtain ⟨d0, d1, _⟩ := HCM.out w5 HB5.out
          go_wp2_with fail
          clear d0 d1
          have hpu := HPU.out w5 HB5.out HP5.out
          rw [push_zip_no hE] at hpu
          refine hpu.mono ?_
          rintro _ w6 ⟨rfl, hk, hp⟩
          clear hpu
          have HP6 : Hid (IsPast w6 (FQ w6 p (.slice Av (t + 1) cv)) p (Zip K t)) := Lib.hid (past_step (fun b h => ((own_ge HO5.out) b h).2) HP5.out.lt hk.size hp)
          have HB6 := Lib.hid (HB5.out.trans (hk.toBelow HB5.out.size (fun b e => by subst e; exact HPL.out)))
          have HO6 := Lib.hid (HO5.out.kept EModel.stays hk.grownBy (.inr HVP.out) (fun b h _ e => by injection e with e; have := HPL.out; omega))
          clear hk hp HB5 HP5 HO5
          have hE' : ((29 : Int) != 29) = false := rfl
          go_wp2_with fail
          refine wp_region_quiet_below (by kernel_rfl) (by kernel_rfl) ?_
          repeat (first | go_big_quiet_step (fail) | quiet_step (fail))
          refine wpQuiet_nil ?_
          intro _ hw'
          obtain ⟨⟨dq, osq⟩, hw''⟩ := hw'
          subst hw''
          have hbq := below_regrown w6 dq osq
          obtain ⟨wi, hwi⟩ : ∃ u : World, Sort.grow (redrawn w6 dq) osq = u := ⟨_, rfl⟩
          rw [hwi] at hbq ⊢
          clear hwi 
          have HB7 := Lib.hid (HB6.out.trans (hbq.mono HB6.out.size))
          have HO7 := Lib.hid (HO6.out.below EModel.stays hbq)
          have HP7 := Lib.hid (past_below HP6.out hbq)
          clear hbq HB6 HO6 HP6
          go_wp2
          go_roundg (L.length - (i + 1))
          case measure => have := HG.out; omega
          case rel => exact ⟨i + 1, t, K, _, rfl, by go_num, rfl, by omega, HTK.out, by have := HTK.out; omega, HKA.out, HB7.out, HO7.out, HVP.out, HP7.out⟩
        · by_cases heq : m = y
          · have HEQ := Lib.hid heq
            clear heq
            rw [hE] at HCK
            obtain ⟨d0, d1, _⟩ := HCM.out wr HB.out
            go_wp2_with fail
            clear d0 d1
            refine (HCK.out wr HB.out).mono ?_
            rintro _ w5 ⟨rfl, hb⟩
            have HB5 := Lib.hid (HB.out.trans (hb.mono HB.out.size))
            have HO5 := Lib.hid (HO.out.below EModel.stays hb)
            have HP5 := Lib.hid (past_below HP.out hb)
            clear hb HB HO HP
            obtain ⟨d0, d1, _⟩ := HCM.out w5 HB5.out
            go_wp2_with fail
            clear d0 d1
            have hpu := HPU.out w5 HB5.out HP5.out
            rw [push_zip_same hE (HEQ.out.trans HY.out.symm)] at hpu
            refine hpu.mono ?_
            rintro _ w6 ⟨rfl, hk, hp⟩
            clear hpu
            have HP6 : Hid (IsPast w6 (FQ w6 p (.slice Av (t + 1) cv)) p (Zip K t)) := Lib.hid (past_step (fun b h => ((own_ge HO5.out) b h).2) HP5.out.lt hk.size hp)
            have HB6 := Lib.hid (HB5.out.trans (hk.toBelow HB5.out.size (fun b e => by subst e; exact HPL.out)))
            have HO6 := Lib.hid (HO5.out.kept EModel.stays hk.grownBy (.inr HVP.out) (fun b h _ e => by injection e with e; have := HPL.out; omega))
            clear hk hp HB5 HP5 HO5
            obtain ⟨d0, d1, _⟩ := HCM.out w6 HB6.out
            obtain ⟨bk, offk, Sk, ck, rfl, q0, q1, hrk⟩ := own_model_at HO6.out (show t < K.length by have := HTK.out; omega)
            rw [HY.out] at q0 q1 hrk
            have HRK := Lib.hid hrk
            clear hrk
            have t0 : (0 : Int) ≤ t := by omega
            have t1 : (t : Int) < (t : Int) + 1 := by omega
            go_wp2_with fail
            have qd0 := cell_regrown (d0)
            have qd1 := cell_regrown (d1)
            have qq0 := cell_regrown (q0)
            have qq1 := cell_regrown (q1)
            have CS := Lib.hid (fun (d : Nat) (os : Array Obj) => Calls.regrown_of (w := w6) (d := d) (os := os) (res_is (eqB_yes HEQ.out) (asame_any S' Sk cs' ck m y (Sort.grow (redrawn w6 d) os) (· < w.heap.size) (fun b => b < w6.heap.size) (fun b h => Nat.lt_of_lt_of_le h (HB6.out.trans ((below_regrown w6 d os).mono HB6.out.size)).size) (fun b h => Nat.lt_of_lt_of_le h (below_regrown w6 d os).size) (HCM.out _ (HB6.out.trans ((below_regrown w6 d os).mono HB6.out.size))).2.2 (HRK.out.keep ENode.stays (Keep.below (below_regrown w6 d os) (fun _ h => h)) (fun _ h => h)) (by have := HZM.out.2.2; omega))))
            clear d0 d1 q0 q1
            refine wp_region_quiet_below (by kernel_rfl) (by kernel_rfl) ?_
            repeat (first | go_big_quiet_step (exact CS.out _ _) | quiet_step (exact CS.out _ _))
            refine wpQuiet_nil ?_
            intro _ hw'
            obtain ⟨⟨dq, osq⟩, hw''⟩ := hw'
            subst hw''
            have hbq := below_regrown w6 dq osq
            obtain ⟨wi, hwi⟩ : ∃ u : World, Sort.grow (redrawn w6 dq) osq = u := ⟨_, rfl⟩
            rw [hwi] at hbq ⊢
            clear hwi qd0 qd1 qq0 qq1 CS
            clear HRK t0 t1
            have HB7 := Lib.hid (HB6.out.trans (hbq.mono HB6.out.size))
            have HO7 := Lib.hid (HO6.out.below EModel.stays hbq)
            have HP7 := Lib.hid (past_below HP6.out hbq)
            clear hbq HB6 HO6 HP6
            go_wp2
            go_roundg (L.length - (i + 1))
            case measure => have := HG.out; omega
            case rel => exact ⟨i + 1, t, K, _, rfl, by go_num, rfl, by omega, HTK.out, by have := HTK.out; omega, HKA.out, HB7.out, HO7.out, HVP.out, HP7.out⟩
          · have HEQ := Lib.hid heq
            clear heq
            rw [hE] at HCK
            obtain ⟨d0, d1, _⟩ := HCM.out wr HB.out
            go_wp2_with fail
            clear d0 d1
            refine (HCK.out wr HB.out).mono ?_
            rintro _ w5 ⟨rfl, hb⟩
            have HB5 := Lib.hid (HB.out.trans (hb.mono HB.out.size))
            have HO5 := Lib.hid (HO.out.below EModel.stays hb)
            have HP5 := Lib.hid (past_below HP.out hb)
            clear hb HB HO HP
            obtain ⟨d0, d1, _⟩ := HCM.out w5 HB5.out
            go_wp2_with fail
            clear d0 d1
            have hpu := HPU.out w5 HB5.out HP5.out
            rw [push_zip_new hE (fun e => HEQ.out (e.trans HY.out)) HTK.out (by have := HTK.out; omega)] at hpu
            refine hpu.mono ?_
            rintro _ w6 ⟨rfl, hk, hp⟩
            clear hpu
            have HP6 : Hid (IsPast w6 (FQ w6 p (.slice Av (t + 1) cv)) p (Zip (K ++ [m]) (t + 1))) := Lib.hid (past_step (fun b h => ((own_ge HO5.out) b h).2) HP5.out.lt hk.size hp)
            have HB6 := Lib.hid (HB5.out.trans (hk.toBelow HB5.out.size (fun b e => by subst e; exact HPL.out)))
            have HO6 := Lib.hid (HO5.out.kept EModel.stays hk.grownBy (.inr HVP.out) (fun b h _ e => by injection e with e; have := HPL.out; omega))
            clear hk hp HB5 HP5 HO5
            obtain ⟨d0, d1, _⟩ := HCM.out w6 HB6.out
            obtain ⟨bk, offk, Sk, ck, rfl, q0, q1, hrk⟩ := own_model_at HO6.out (show t < K.length by have := HTK.out; omega)
            rw [HY.out] at q0 q1 hrk
            have HRK := Lib.hid hrk
            clear hrk
            have t0 : (0 : Int) ≤ t := by omega
            have t1 : (t : Int) < (t : Int) + 1 := by omega
            go_wp2_with fail
            have qd0 := cell_regrown (d0)
            have qd1 := cell_regrown (d1)
            have qq0 := cell_regrown (q0)
            have qq1 := cell_regrown (q1)
            have CS := Lib.hid (fun (d : Nat) (os : Array Obj) => Calls.regrown_of (w := w6) (d := d) (os := os) (res_is (eqB_no HEQ.out) (asame_any S' Sk cs' ck m y (Sort.grow (redrawn w6 d) os) (· < w.heap.size) (fun b => b < w6.heap.size) (fun b h => Nat.lt_of_lt_of_le h (HB6.out.trans ((below_regrown w6 d os).mono HB6.out.size)).size) (fun b h => Nat.lt_of_lt_of_le h (below_regrown w6 d os).size) (HCM.out _ (HB6.out.trans ((below_regrown w6 d os).mono HB6.out.size))).2.2 (HRK.out.keep ENode.stays (Keep.below (below_regrown w6 d os) (fun _ h => h)) (fun _ h => h)) (by have := HZM.out.2.2; omega))))
            clear d0 d1 q0 q1
            refine wp_region_quiet_below (by kernel_rfl) (by kernel_rfl) ?_
            repeat (first | go_big_quiet_step (exact CS.out _ _) | quiet_step (exact CS.out _ _))
            refine wpQuiet_nil ?_
            intro _ hw'
            obtain ⟨⟨dq, osq⟩, hw''⟩ := hw'
            subst hw''
            have hbq := below_regrown w6 dq osq
            obtain ⟨wi, hwi⟩ : ∃ u : World, Sort.grow (redrawn w6 dq) osq = u := ⟨_, rfl⟩
            rw [hwi] at hbq ⊢
            clear hwi qd0 qd1 qq0 qq1 CS
            clear HRK t0 t1
            have HB7 := Lib.hid (HB6.out.trans (hbq.mono HB6.out.size))
            have HO7 := Lib.hid (HO6.out.below EModel.stays hbq)
            have HP7 := Lib.hid (past_below HP6.out hbq)
            clear hbq HB6 HO6 HP6
            obtain ⟨d0, d1, hrm⟩ := HCM.out wi HB7.out
            have HRM := Lib.hid hrm
            clear hrm
            go_wp2_with (at_builtin; refine wpList_push _ EModel.stays rfl (.tmp 87) (.tmp 92) 22 rfl w.heap.size 27 Try.underlying22 mdl_info ?a1 ?a2 (.slice (some ⟨bk, offk, none⟩) (t + 1) cv) K ?a3 (HO7.out.alloc EModel.stays (.cells #[.int .i64 m.next, .slice S' m.nodes.length cs'] 27)) m ⟨wi.heap.size, 0, none⟩ 1 [.int .i64 m.next, .slice S' m.nodes.length cs'] ?a4 ?a5 ?a6 ?a7 ?a8 ?a9 ?a10 ?a11 ?a12)
            try (case a1 => rfl)
            try (case a2 => omega)
            try (case a3 => first | rfl | simp [Act.eval])
            try (case a4 => rfl)
            try (case a5 => rfl)
            try (case a6 => exact news_cells (Blk.new wi 27 #[.int .i64 m.next, .slice S' m.nodes.length cs']))
            try (case a7 => intro u hu; simp at hu; rcases hu with rfl | rfl <;> rfl)
            try (case a8 => exact ⟨_, rfl, S', cs', rfl, HKC.out.1, HKC.out.2, RowOf.keep ENode.stays (Keep.alloc _ _ (fun b h => Nat.lt_of_lt_of_le h HB7.out.size)) (fun b h => ⟨h, by have := HB7.out.size; simp; omega, fun e => by have := (own_ge HO7.out) b e; omega⟩) HRM.out⟩)
            try (case a9 => have := HTK.out; unfold maxLen; omega)
            try (case a10 => have := HTK.out; omega)
            try (case a11 => have := HB7.out.size; simp; omega)
            case a12 =>
              intro A8 c8 w8 ho8 hg8 hat8
              have hba : Below wi.heap.size wi (wi.alloc (.cells #[.int .i64 m.next, .slice S' m.nodes.length cs'] 27)) := (Below.refl _ _).alloc (Nat.le_refl _) _
              have HO8 : Hid (OwnRow 2 27 EModel (· < w.heap.size) w8 w.heap.size (.slice A8 (t + 1 + 1) c8) (K ++ [m])) := Lib.hid (by rw [HTK.out]; exact ho8)
              have hat : (Value.slice A8 (t + 1 + 1) c8).ownBlock = (Value.slice (some ⟨bk, offk, none⟩) (t + 1) cv).ownBlock ∨ (Value.slice A8 (t + 1 + 1) c8).ownBlock = some (wi.alloc (.cells #[.int .i64 m.next, .slice S' m.nodes.length cs'] 27)).heap.size := by
                rw [show t + 1 + 1 = K.length + 1 by rw [HTK.out]]
                simpa using hat8
              have HP8 : Hid (IsPast w8 (FQ w8 p (.slice A8 (t + 1 + 1) c8)) p (Zip (K ++ [m]) (t + 1))) := Lib.hid (past_grown (past_below HP7.out hba) hg8 HVP.out hat)
              have HB8 := Lib.hid ((HB7.out.trans (hba.mono HB7.out.size)).grown hg8 (by have := HB7.out.size; simp; omega) (fun b e => ((own_ge HO7.out) b e).1))
              have HVP8 : Hid ((Value.slice A8 (t + 1 + 1) c8).ownBlock ≠ some p) := Lib.hid (fun e => by
                rcases hat with h | h
                · exact HVP.out (h ▸ e)
                · rw [h] at e; injection e with e; have := HP7.out.lt; simp at e; omega)
              rw [← HTK.out]
              clear ho8 hg8 hat8 hat hba
              go_wp2
              go_roundg (L.length - (i + 1))
              case measure => have := HG.out; omega
              case rel => exact ⟨i + 1, t + 1, K ++ [m], _, rfl, by go_num, rfl, by omega, by rw [List.length_append, ← HTK.out]; rfl, by rw [List.length_append, ← HTK.out]; simp; omega, fun x hx => (List.mem_append.1 hx).elim (HKA.out x) (fun h => by rw [List.mem_singleton.1 h]; exact HZM.out), HB8.out, HO8.out, HVP8.out, HP8.out⟩
      · have hlt' : ¬ (i : Int) < L.length := by omega
        have hie : i = L.length := by omega
        subst hie
        obtain ⟨wq, hwq⟩ : ∃ x, x = wr := ⟨_, rfl⟩
        subst hwq
        obtain ⟨t0, ht0⟩ : ∃ x, x = t := ⟨_, rfl⟩
        subst ht0
        obtain ⟨gk, rfl, _⟩ : ∃ g, Av = some ⟨g, 0, none⟩ ∧ True := by
          obtain ⟨xs, hx⟩ := HO.out.owns
          rw [← HTK.out] at hx
          obtain ⟨g, e, _⟩ := own_pos hx (Nat.succ_pos _)
          exact ⟨g, e, trivial⟩
        have HFQ : Hid (∀ b, FQ wq p (.slice (some ⟨gk, 0, none⟩) (t0 + 1) cv) b → b < wq.heap.size) := Lib.hid (fun b h => h.1)
        have HFP : ¬ FQ wq p (.slice (some ⟨gk, 0, none⟩) (t0 + 1) cv) p := fun h => h.2.1 rfl
        have hkl : K.length ≤ 65 := by have := HTK.out; omega
        have HKL := Lib.hid hkl
        clear hkl hlt hlt' i0 HG HY HOG HMA
        go_wp2_with fail
        go_loopg [9, 10, 11, 12] (t0 + 1) (fun g s9 s10 s11 s12 wx => ∃ t : Nat, s9 = .int .i64 ((t : Int) - 1) ∧ g = t + 1 ∧ t ≤ t0 ∧ Below w.heap.size w wx ∧ OwnRow 2 27 EModel (· < w.heap.size) wx w.heap.size (.slice (some ⟨gk, 0, none⟩) (t0 + 1) cv) K ∧ IsPast wx (FQ wq p (.slice (some ⟨gk, 0, none⟩) (t0 + 1) cv)) p (Zip K t) ∧ (∀ b, FQ wq p (.slice (some ⟨gk, 0, none⟩) (t0 + 1) cv) b → b < wx.heap.size))
        case atStart => exact ⟨t0, by go_num, rfl, Nat.le_refl _, HB.out, HO.out, HP.out, HFQ.out⟩
        case round =>
          clear HB HO HP HFQ
          obtain ⟨t, rfl, rfl, htt, hb, ho, hp, hfz⟩ := hrel
          have HB := Lib.hid hb; have HO := Lib.hid ho; have HP := Lib.hid hp; have HFZ := Lib.hid hfz
          clear hb ho hp hfz
          rcases t with _ | t
          · have g0 : decide ((0 : Int) ≤ ((0 : Nat) : Int) - 1) = false := by decide
            have hun := undo_first HFZ.out HFP HP.out (by have := HTK.out; omega) HKL.out HKA.out
            go_wp2_with fail
            refine hun.mono ?_
            rintro _ w9 ⟨rfl, hk, hp⟩
            clear hun
            have HP9 := Lib.hid hp
            have HB9 := Lib.hid (HB.out.trans (hk.toBelow HB.out.size (fun b e => by subst e; exact HPL.out)))
            have HO9 := Lib.hid (HO.out.kept EModel.stays hk.grownBy (.inr HVP.out) (fun b h _ e => by injection e with e; have := HPL.out; omega))
            have HFZ9 : Hid (∀ b, FQ wq p (.slice (some ⟨gk, 0, none⟩) (t0 + 1) cv) b → b < w9.heap.size) := Lib.hid (fun b h => Nat.lt_of_lt_of_le (HFZ.out b h) hk.size)
            clear hk hp HB HO HFZ HP
            obtain ⟨pU, hpU⟩ : ∃ x, w9.heap.size = x := ⟨_, rfl⟩
            have HWE : Hid (∃ z, w9.alloc (.cells #[.int .i64 0, .slice none 0 0] 27) = z) := Lib.hid ⟨_, rfl⟩
            go_upto_region 26 with fail
            obtain ⟨w10, hww10⟩ := HWE.out
            have hnew : Blk w10 pU 27 #[.int .i64 0, .slice none 0 0] := by rw [← hww10]; exact Blk.new' hpU.symm
            have hb : Below w9.heap.size w9 w10 := by rw [← hww10]; exact (Below.refl _ _).alloc (Nat.le_refl _) _
            (try rw [hww10])
            (try rw [hpU])
            clear HWE hww10 hpU
            clear hnew
            have HB10 := Lib.hid (HB9.out.trans (hb.mono HB9.out.size))
            have HO10 := Lib.hid (HO9.out.below EModel.stays hb)
            have HFZ10 : Hid (∀ b, FQ wq p (.slice (some ⟨gk, 0, none⟩) (t0 + 1) cv) b → b < w10.heap.size) := Lib.hid (fun b h => Nat.lt_of_lt_of_le (HFZ9.out b h) hb.size)
            have HP10 := Lib.hid (HP9.out.below hb HFZ9.out)
            clear hb
            clear HB9 HO9 HFZ9 HP9
            go_wp2_with fail
            go_loopg [15, 16, 17, 18] t0 (fun g s15 s16 s17 s18 wx => ∃ t : Nat, s15 = .int .i64 ((t : Int) + 1) ∧ g = t0 - t ∧ t ≤ t0 ∧ Below w.heap.size w wx ∧ OwnRow 2 27 EModel (· < w.heap.size) wx w.heap.size (.slice (some ⟨gk, 0, none⟩) (t0 + 1) cv) K ∧ IsPast wx (FQ wq p (.slice (some ⟨gk, 0, none⟩) (t0 + 1) cv)) p (Zip K t) ∧ (∀ b, FQ wq p (.slice (some ⟨gk, 0, none⟩) (t0 + 1) cv) b → b < wx.heap.size))
            case atStart => exact ⟨0, by simp, rfl, Nat.zero_le _, HB10.out, HO10.out, HP10.out, HFZ10.out⟩
            case round =>
              clear HB10 HO10 HP10 HFZ10 htt
              obtain ⟨t, rfl, rfl, htt, hb, ho, hp, hfz⟩ := hrel
              have HB := Lib.hid hb; have HO := Lib.hid ho; have HP := Lib.hid hp; have HFZ := Lib.hid hfz
              clear hb ho hp hfz
              by_cases htl : t < t0
              · have hl1 : (t : Int) + 1 < (t0 : Int) + 1 := by omega
                have hl2 : (t : Int) + 1 < ((t0 + 1 : Nat) : Int) := by omega
                have hl3 : decide ((t : Int) + 1 < (t0 : Int) + 1) = true := decide_eq_true hl1
                obtain ⟨y, hy⟩ : ∃ y, K[t + 1]! = y := ⟨_, rfl⟩
                have HYI := Lib.hid hy
                have HYL : Hid (y.nodes.length ≤ 9223372036854775807) := Lib.hid (by have := (HKA.out y (by rw [← hy, zip_here (by have := HTK.out; omega)]; exact List.getElem_mem _)).2.2; omega)
                have hun := redo_zip HFZ.out HFP HP.out (by have := HTK.out; omega) HKL.out HKA.out
                rw [hy] at hun
                clear hy
                go_wp2_with fail
                refine hun.mono ?_
                rintro _ w9 ⟨Ax, cx, rfl, hk, hp, hrx⟩
                clear hun
                have HRX9 := Lib.hid hrx
                have HP9 := Lib.hid hp
                have HB9 := Lib.hid (HB.out.trans (hk.toBelow HB.out.size (fun b e => by subst e; exact HPL.out)))
                have HO9 := Lib.hid (HO.out.kept EModel.stays hk.grownBy (.inr HVP.out) (fun b h _ e => by injection e with e; have := HPL.out; omega))
                have HFZ9 : Hid (∀ b, FQ wq p (.slice (some ⟨gk, 0, none⟩) (t0 + 1) cv) b → b < w9.heap.size) := Lib.hid (fun b h => Nat.lt_of_lt_of_le (HFZ.out b h) hk.size)
                clear hk hp hrx HB HO HFZ HP
                obtain ⟨pM, hpM⟩ : ∃ x, w9.heap.size = x := ⟨_, rfl⟩
                have HWE : Hid (∃ z, w9.alloc (.cells #[.int .i64 y.next, .slice Ax y.nodes.length cx] 27) = z) := Lib.hid ⟨_, rfl⟩
                go_upto_region 32 with fail
                obtain ⟨w10, hww10⟩ := HWE.out
                have hnew : Blk w10 pM 27 #[.int .i64 y.next, .slice Ax y.nodes.length cx] := by rw [← hww10]; exact Blk.new' hpM.symm
                have hb : Below w9.heap.size w9 w10 := by rw [← hww10]; exact (Below.refl _ _).alloc (Nat.le_refl _) _
                (try rw [hww10])
                (try rw [hpM])
                clear HWE hww10 hpM
                have HB10 := Lib.hid (HB9.out.trans (hb.mono HB9.out.size))
                have HO10 := Lib.hid (HO9.out.below EModel.stays hb)
                have HFZ10 : Hid (∀ b, FQ wq p (.slice (some ⟨gk, 0, none⟩) (t0 + 1) cv) b → b < w10.heap.size) := Lib.hid (fun b h => Nat.lt_of_lt_of_le (HFZ9.out b h) hb.size)
                have HP10 := Lib.hid (HP9.out.below hb HFZ9.out)
                have HRX10 : Hid (RowOf 7 ENode w10 (fun b => b < w10.heap.size) Ax y.nodes) := Lib.hid (HRX9.out.keep ENode.stays (Keep.below hb (fun _ h => h)) (fun _ h => Nat.lt_of_lt_of_le h hb.size))
                clear hb
                clear HB9 HO9 HFZ9 HP9 HRX9
                obtain ⟨bk, offk, Sk, ck, ebk, q0, q1, hrk⟩ := own_model_at HO10.out (show t + 1 < K.length by have := HTK.out; omega)
                injection ebk with ebk
                injection ebk with ebk1 ebk2
                subst ebk1; subst ebk2
                simp only [Nat.zero_add] at q0 q1
                have tz0 : (0 : Int) ≤ (t + 1 : Nat) := by omega
                have tz1 : ((t + 1 : Nat) : Int) < (t0 : Int) + 1 := by omega
                rw [HYI.out] at q0 q1 hrk
                have HRK := Lib.hid hrk
                clear hrk
                have p0 : w10.cell? ⟨pM, 0, none⟩ = some (.int .i64 y.next) := hnew.cell 0
                have p1 : w10.cell? ⟨pM, 1, none⟩ = some (.slice Ax y.nodes.length cx) := hnew.cell 1
                clear hnew
                go_wp2_with fail
                have qp0 := cell_regrown (p0)
                have qp1 := cell_regrown (p1)
                have qq0 := cell_regrown (q0)
                have qq1 := cell_regrown (q1)
                have CS := Lib.hid (fun (d : Nat) (os : Array Obj) => Calls.regrown_of (w := w10) (d := d) (os := os) (res_is (eqB_yes rfl) (asame_any Ax Sk cx ck y y (Sort.grow (redrawn w10 d) os) (fun b => b < w10.heap.size) (fun b => b < w10.heap.size) (fun b h => Nat.lt_of_lt_of_le h (below_regrown w10 d os).size) (fun b h => Nat.lt_of_lt_of_le h (below_regrown w10 d os).size) (HRX10.out.keep ENode.stays (Keep.below (below_regrown w10 d os) (fun _ h => h)) (fun _ h => h)) (HRK.out.keep ENode.stays (Keep.below (below_regrown w10 d os) (fun _ h => h)) (fun _ h => h)) HYL.out)))
                clear p0 p1 q0 q1
                refine wp_region_quiet_below (by kernel_rfl) (by kernel_rfl) ?_
                repeat (first | go_big_quiet_step (exact CS.out _ _) | quiet_step (exact CS.out _ _))
                refine wpQuiet_nil ?_
                intro _ hw'
                obtain ⟨⟨dq, osq⟩, hw''⟩ := hw'
                subst hw''
                have hbq := below_regrown w10 dq osq
                obtain ⟨w11, hwi⟩ : ∃ u : World, Sort.grow (redrawn w10 dq) osq = u := ⟨_, rfl⟩
                rw [hwi] at hbq ⊢
                clear hwi qp0 qp1 qq0 qq1 CS
                clear HRK tz0 tz1
                have HB11 := Lib.hid (HB10.out.trans (hbq.mono HB10.out.size))
                have HO11 := Lib.hid (HO10.out.below EModel.stays hbq)
                have HFZ11 : Hid (∀ b, FQ wq p (.slice (some ⟨gk, 0, none⟩) (t0 + 1) cv) b → b < w11.heap.size) := Lib.hid (fun b h => Nat.lt_of_lt_of_le (HFZ10.out b h) hbq.size)
                have HP11 := Lib.hid (HP10.out.below hbq HFZ10.out)
                have HRX11 : Hid (RowOf 7 ENode w11 (fun b => b < w11.heap.size) Ax y.nodes) := Lib.hid (HRX10.out.keep ENode.stays (Keep.below hbq (fun _ h => h)) (fun _ h => Nat.lt_of_lt_of_le h hbq.size))
                clear HB10 HO10 HFZ10 HP10 HRX10
                clear hbq HYI HYL
                go_wp2
                go_roundg (t0 - (t + 1))
                case measure => omega
                case rel => exact ⟨t + 1, by go_num, rfl, by omega, HB11.out, HO11.out, HP11.out, HFZ11.out⟩
              · have hl1 : ¬ (t : Int) + 1 < (t0 : Int) + 1 := by omega
                have hl2 : ¬ (t : Int) + 1 < ((t0 + 1 : Nat) : Int) := by omega
                have hl3 : decide ((t : Int) + 1 < (t0 : Int) + 1) = false := decide_eq_false hl1
                have hte : t0 = t := by omega
                subst hte
                obtain ⟨y, hy⟩ : ∃ y, K[t0]! = y := ⟨_, rfl⟩
                have HYI := Lib.hid hy
                have HYL : Hid (y.nodes.length ≤ 9223372036854775807) := Lib.hid (by have := (HKA.out y (by rw [← hy, zip_here (by have := HTK.out; omega)]; exact List.getElem_mem _)).2.2; omega)
                clear hy
                have hun := redo_last HFZ.out HFP HP.out HTK.out HKL.out HKA.out
                go_wp2_with fail
                refine hun.mono ?_
                rintro _ w9 ⟨rfl, hk, hp⟩
                clear hun
                have HP9 := Lib.hid hp
                have HB9 := Lib.hid (HB.out.trans (hk.toBelow HB.out.size (fun b e => by subst e; exact HPL.out)))
                have HO9 := Lib.hid (HO.out.kept EModel.stays hk.grownBy (.inr HVP.out) (fun b h _ e => by injection e with e; have := HPL.out; omega))
                have HFZ9 : Hid (∀ b, FQ wq p (.slice (some ⟨gk, 0, none⟩) (t0 + 1) cv) b → b < w9.heap.size) := Lib.hid (fun b h => Nat.lt_of_lt_of_le (HFZ.out b h) hk.size)
                clear hk hp HB HO HFZ HP
                have hnw := now_zip HFZ9.out HP9.out (by have := HTK.out; omega) HKA.out
                rw [HYI.out] at hnw
                go_wp2_with fail
                refine hnw.mono ?_
                rintro _ w10 ⟨Ax, cx, rfl, hrx, hb⟩
                clear hnw
                have HRX10 := Lib.hid hrx
                have HB10 := Lib.hid (HB9.out.trans (hb.mono HB9.out.size))
                have HO10 := Lib.hid (HO9.out.below EModel.stays hb)
                have HFZ10 : Hid (∀ b, FQ wq p (.slice (some ⟨gk, 0, none⟩) (t0 + 1) cv) b → b < w10.heap.size) := Lib.hid (fun b h => Nat.lt_of_lt_of_le (HFZ9.out b h) hb.size)
                have HP10 := Lib.hid (HP9.out.below hb HFZ9.out)
                clear hb hrx
                clear HB9 HO9 HFZ9 HP9
                obtain ⟨pM, hpM⟩ : ∃ x, w10.heap.size = x := ⟨_, rfl⟩
                have HWE : Hid (∃ z, w10.alloc (.cells #[.int .i64 y.next, .slice Ax y.nodes.length cx] 27) = z) := Lib.hid ⟨_, rfl⟩
                go_upto_region 37 with fail
                obtain ⟨w11, hww11⟩ := HWE.out
                have hnew : Blk w11 pM 27 #[.int .i64 y.next, .slice Ax y.nodes.length cx] := by rw [← hww11]; exact Blk.new' hpM.symm
                have hb : Below w10.heap.size w10 w11 := by rw [← hww11]; exact (Below.refl _ _).alloc (Nat.le_refl _) _
                (try rw [hww11])
                (try rw [hpM])
                clear HWE hww11 hpM
                have HB11 := Lib.hid (HB10.out.trans (hb.mono HB10.out.size))
                have HO11 := Lib.hid (HO10.out.below EModel.stays hb)
                have HFZ11 : Hid (∀ b, FQ wq p (.slice (some ⟨gk, 0, none⟩) (t0 + 1) cv) b → b < w11.heap.size) := Lib.hid (fun b h => Nat.lt_of_lt_of_le (HFZ10.out b h) hb.size)
                have HP11 := Lib.hid (HP10.out.below hb HFZ10.out)
                have HRX11 : Hid (RowOf 7 ENode w11 (fun b => b < w11.heap.size) Ax y.nodes) := Lib.hid (HRX10.out.keep ENode.stays (Keep.below hb (fun _ h => h)) (fun _ h => Nat.lt_of_lt_of_le h hb.size))
                have HPM : Hid (Blk w11 pM 27 #[.int .i64 y.next, .slice Ax y.nodes.length cx]) := Lib.hid hnew
                clear hb hnew
                clear HB10 HO10 HFZ10 HP10 HRX10
                have hdp := depth_zip HP11.out HTK.out HKL.out
                go_wp2_with fail
                refine hdp.mono ?_
                rintro _ w12 ⟨rfl, hb⟩
                clear hdp
                have hnew := HPM.out.below hb HPM.out.lt
                have HB12 := Lib.hid (HB11.out.trans (hb.mono HB11.out.size))
                have HO12 := Lib.hid (HO11.out.below EModel.stays hb)
                have HFZ12 : Hid (∀ b, FQ wq p (.slice (some ⟨gk, 0, none⟩) (t0 + 1) cv) b → b < w12.heap.size) := Lib.hid (fun b h => Nat.lt_of_lt_of_le (HFZ11.out b h) hb.size)
                have HP12 := Lib.hid (HP11.out.below hb HFZ11.out)
                have HRX12 : Hid (RowOf 7 ENode w12 (fun b => b < w12.heap.size) Ax y.nodes) := Lib.hid (HRX11.out.keep ENode.stays (Keep.below hb (fun _ h => h)) (fun _ h => Nat.lt_of_lt_of_le h hb.size))
                clear hb HPM
                clear HB11 HO11 HFZ11 HP11 HRX11
                have k1 : ((t0 + 1 : Nat) : Int) - 1 = t0 := by omega
                have k2 : (t0 : Int) + 1 - 1 = t0 := by omega
                have ke : ((t0 : Int) == t0) = true := by simp
                obtain ⟨bk, offk, Sk, ck, ebk, q0, q1, hrk⟩ := own_model_at HO12.out (show t0 < K.length by have := HTK.out; omega)
                injection ebk with ebk
                injection ebk with ebk1 ebk2
                subst ebk1; subst ebk2
                simp only [Nat.zero_add] at q0 q1
                have tz0 : (0 : Int) ≤ (t0 : Nat) := by omega
                have tz1 : ((t0 : Nat) : Int) < (t0 : Int) + 1 := by omega
                rw [HYI.out] at q0 q1 hrk
                have HRK := Lib.hid hrk
                clear hrk
                have p0 : w12.cell? ⟨pM, 0, none⟩ = some (.int .i64 y.next) := hnew.cell 0
                have p1 : w12.cell? ⟨pM, 1, none⟩ = some (.slice Ax y.nodes.length cx) := hnew.cell 1
                clear hnew
                go_wp2_with fail
                have qp0 := cell_regrown (p0)
                have qp1 := cell_regrown (p1)
                have qq0 := cell_regrown (q0)
                have qq1 := cell_regrown (q1)
                have CS := Lib.hid (fun (d : Nat) (os : Array Obj) => Calls.regrown_of (w := w12) (d := d) (os := os) (res_is (eqB_yes rfl) (asame_any Ax Sk cx ck y y (Sort.grow (redrawn w12 d) os) (fun b => b < w12.heap.size) (fun b => b < w12.heap.size) (fun b h => Nat.lt_of_lt_of_le h (below_regrown w12 d os).size) (fun b h => Nat.lt_of_lt_of_le h (below_regrown w12 d os).size) (HRX12.out.keep ENode.stays (Keep.below (below_regrown w12 d os) (fun _ h => h)) (fun _ h => h)) (HRK.out.keep ENode.stays (Keep.below (below_regrown w12 d os) (fun _ h => h)) (fun _ h => h)) HYL.out)))
                clear p0 p1 q0 q1
                refine wp_region_quiet_below (by kernel_rfl) (by kernel_rfl) ?_
                repeat (first | go_big_quiet_step (exact CS.out _ _) | quiet_step (exact CS.out _ _))
                refine wpQuiet_nil ?_
                intro _ hw'
                obtain ⟨⟨dq, osq⟩, hw''⟩ := hw'
                subst hw''
                have hbq := below_regrown w12 dq osq
                obtain ⟨w13, hwi⟩ : ∃ u : World, Sort.grow (redrawn w12 dq) osq = u := ⟨_, rfl⟩
                rw [hwi] at hbq ⊢
                clear hwi qp0 qp1 qq0 qq1 CS
                clear HRK tz0 tz1
                have HB13 := Lib.hid (HB12.out.trans (hbq.mono HB12.out.size))
                clear hbq HYI HYL
                go_wp2
                go_ret
                exact ⟨by simp, HB13.out⟩
          · have g0 : decide ((0 : Int) ≤ ((t + 1 : Nat) : Int) - 1) = true := decide_eq_true (by omega)
            have g1 : ((t + 1 : Nat) : Int) - 1 = t := by omega
            obtain ⟨y, hy⟩ : ∃ y, K[t]! = y := ⟨_, rfl⟩
            have HYI := Lib.hid hy
            have HYL : Hid (y.nodes.length ≤ 9223372036854775807) := Lib.hid (by have := (HKA.out y (by rw [← hy, zip_here (by have := HTK.out; omega)]; exact List.getElem_mem _)).2.2; omega)
            have hun := undo_zip HFZ.out HFP HP.out (by have := HTK.out; omega) HKL.out HKA.out
            rw [hy] at hun
            clear hy
            go_wp2_with fail
            refine hun.mono ?_
            rintro _ w9 ⟨Ax, cx, rfl, hk, hp, hrx⟩
            clear hun
            have HRX9 := Lib.hid hrx
            have HP9 := Lib.hid hp
            have HB9 := Lib.hid (HB.out.trans (hk.toBelow HB.out.size (fun b e => by subst e; exact HPL.out)))
            have HO9 := Lib.hid (HO.out.kept EModel.stays hk.grownBy (.inr HVP.out) (fun b h _ e => by injection e with e; have := HPL.out; omega))
            have HFZ9 : Hid (∀ b, FQ wq p (.slice (some ⟨gk, 0, none⟩) (t0 + 1) cv) b → b < w9.heap.size) := Lib.hid (fun b h => Nat.lt_of_lt_of_le (HFZ.out b h) hk.size)
            clear hk hp hrx HB HO HFZ HP
            obtain ⟨pM, hpM⟩ : ∃ x, w9.heap.size = x := ⟨_, rfl⟩
            have HWE : Hid (∃ z, w9.alloc (.cells #[.int .i64 y.next, .slice Ax y.nodes.length cx] 27) = z) := Lib.hid ⟨_, rfl⟩
            go_upto_region 22 with fail
            obtain ⟨w10, hww10⟩ := HWE.out
            have hnew : Blk w10 pM 27 #[.int .i64 y.next, .slice Ax y.nodes.length cx] := by rw [← hww10]; exact Blk.new' hpM.symm
            have hb : Below w9.heap.size w9 w10 := by rw [← hww10]; exact (Below.refl _ _).alloc (Nat.le_refl _) _
            (try rw [hww10])
            (try rw [hpM])
            clear HWE hww10 hpM
            have HB10 := Lib.hid (HB9.out.trans (hb.mono HB9.out.size))
            have HO10 := Lib.hid (HO9.out.below EModel.stays hb)
            have HFZ10 : Hid (∀ b, FQ wq p (.slice (some ⟨gk, 0, none⟩) (t0 + 1) cv) b → b < w10.heap.size) := Lib.hid (fun b h => Nat.lt_of_lt_of_le (HFZ9.out b h) hb.size)
            have HP10 := Lib.hid (HP9.out.below hb HFZ9.out)
            have HRX10 : Hid (RowOf 7 ENode w10 (fun b => b < w10.heap.size) Ax y.nodes) := Lib.hid (HRX9.out.keep ENode.stays (Keep.below hb (fun _ h => h)) (fun _ h => Nat.lt_of_lt_of_le h hb.size))
            clear hb
            clear HB9 HO9 HFZ9 HP9 HRX9
            obtain ⟨bk, offk, Sk, ck, ebk, q0, q1, hrk⟩ := own_model_at HO10.out (show t < K.length by have := HTK.out; omega)
            injection ebk with ebk
            injection ebk with ebk1 ebk2
            subst ebk1; subst ebk2
            simp only [Nat.zero_add] at q0 q1
            have tz0 : (0 : Int) ≤ (t : Nat) := by omega
            have tz1 : ((t : Nat) : Int) < (t0 : Int) + 1 := by omega
            rw [HYI.out] at q0 q1 hrk
            have HRK := Lib.hid hrk
            clear hrk
            have p0 : w10.cell? ⟨pM, 0, none⟩ = some (.int .i64 y.next) := hnew.cell 0
            have p1 : w10.cell? ⟨pM, 1, none⟩ = some (.slice Ax y.nodes.length cx) := hnew.cell 1
            clear hnew
            go_wp2_with fail
            have qp0 := cell_regrown (p0)
            have qp1 := cell_regrown (p1)
            have qq0 := cell_regrown (q0)
            have qq1 := cell_regrown (q1)
            have CS := Lib.hid (fun (d : Nat) (os : Array Obj) => Calls.regrown_of (w := w10) (d := d) (os := os) (res_is (eqB_yes rfl) (asame_any Ax Sk cx ck y y (Sort.grow (redrawn w10 d) os) (fun b => b < w10.heap.size) (fun b => b < w10.heap.size) (fun b h => Nat.lt_of_lt_of_le h (below_regrown w10 d os).size) (fun b h => Nat.lt_of_lt_of_le h (below_regrown w10 d os).size) (HRX10.out.keep ENode.stays (Keep.below (below_regrown w10 d os) (fun _ h => h)) (fun _ h => h)) (HRK.out.keep ENode.stays (Keep.below (below_regrown w10 d os) (fun _ h => h)) (fun _ h => h)) HYL.out)))
            clear p0 p1 q0 q1
            refine wp_region_quiet_below (by kernel_rfl) (by kernel_rfl) ?_
            repeat (first | go_big_quiet_step (exact CS.out _ _) | quiet_step (exact CS.out _ _))
            refine wpQuiet_nil ?_
            intro _ hw'
            obtain ⟨⟨dq, osq⟩, hw''⟩ := hw'
            subst hw''
            have hbq := below_regrown w10 dq osq
            obtain ⟨w11, hwi⟩ : ∃ u : World, Sort.grow (redrawn w10 dq) osq = u := ⟨_, rfl⟩
            rw [hwi] at hbq ⊢
            clear hwi qp0 qp1 qq0 qq1 CS
            clear HRK tz0 tz1
            have HB11 := Lib.hid (HB10.out.trans (hbq.mono HB10.out.size))
            have HO11 := Lib.hid (HO10.out.below EModel.stays hbq)
            have HFZ11 : Hid (∀ b, FQ wq p (.slice (some ⟨gk, 0, none⟩) (t0 + 1) cv) b → b < w11.heap.size) := Lib.hid (fun b h => Nat.lt_of_lt_of_le (HFZ10.out b h) hbq.size)
            have HP11 := Lib.hid (HP10.out.below hbq HFZ10.out)
            have HRX11 : Hid (RowOf 7 ENode w11 (fun b => b < w11.heap.size) Ax y.nodes) := Lib.hid (HRX10.out.keep ENode.stays (Keep.below hbq (fun _ h => h)) (fun _ h => Nat.lt_of_lt_of_le h hbq.size))
            clear HB10 HO10 HFZ10 HP10 HRX10
            clear hbq HYI HYL
            go_wp2
            go_roundg (t + 1)
            case measure => omega
            case rel => exact ⟨t, by go_num, rfl, by omega, HB11.out, HO11.out, HP11.out, HFZ11.out⟩
end Go.Proofs.Ytpjkifbicfcajaa
