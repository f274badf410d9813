/- the law of a past that is long -/
import Derived.Test.YtpjkifbicfcajaaLongP
import Derived.Test.YtpjkifbicfcajaaAwake
import Derived.Test.YtpjkifbicfcajaaHGreat
set_option linter.unusedSimpArgs false
set_option linter.unusedVariables false
namespace Go.Proofs.Ytpjkifbicfcajaa
open Go Go.RowKit

set_option maxRecDepth 100000 in
set_option maxHeartbeats 8000000 in
theorem long_any (va : Value) (m : AModel) (many : Int) (w : World) (h : IsModel w (fun b => b < w.heap.size) va m) (hz : ModAll m) (hmany : InR many) :
    Calls Try.prog 6 #[va, .int .i64 many] w fun e w' => e = .returned (.bool true) ∧ Below w.heap.size w w' := by
  obtain ⟨_, rfl, A, c, rfl, ca1, ca2, ra⟩ := h
  have HRA := Lib.hid (fun (w0 : World) (hb0 : Below w.heap.size w w0) => RowOf.keep ENode.stays (Keep.below hb0 fun _ h => h) (F' := fun b => b < w.heap.size) (fun _ h => h) ra)
  have HLW := Lib.hid (fun (w0 : World) (hb0 : Below w.heap.size w w0) (b : Nat) (hb : b < w.heap.size) => Nat.lt_of_lt_of_le hb hb0.size)
  have HZ := Lib.hid hz
  have hna : m.nodes.length ≤ 1172812402926 := hz.2.2
  clear ra hz
  obtain ⟨v, hv⟩ : ∃ v : World, w.alloc (.cells #[.int .i64 m.next, .slice A m.nodes.length c] 27) = v := ⟨_, rfl⟩
  have HB1 : Hid (Below w.heap.size w v) := Lib.hid (by rw [← hv]; exact (Below.refl w.heap.size w).alloc (Nat.le_refl _) _)
  have HX1 : Hid (Blk v w.heap.size 27 #[.int .i64 m.next, .slice A m.nodes.length c]) := Lib.hid (by rw [← hv]; exact Blk.new _ _ _)
  go_enter Try.func6, Try.ntmps6
  go_upto_region 1 with fail
  (try rw [hv])
  clear hv
  go_wp2_with fail
  refine (awake_any v).mono ?_
  rintro _ w2 ⟨rfl, hb⟩
  have HB2 := Lib.hid (HB1.out.trans (hb.mono HB1.out.size))
  have HX2 := Lib.hid (HX1.out.below hb HX1.out.lt)
  clear hb HB1 HX1
  have x0 := HX2.out.cell 0; have x1 := HX2.out.cell 1
  have hxlt := HX2.out.lt
  simp at x0 x1
  obtain ⟨s, hs⟩ : ∃ x, w2.heap.size = x := ⟨_, rfl⟩
  have HWE : Hid (∃ z, w2.alloc (.cells #[.int .i64 m.next, .slice A m.nodes.length c] 27) = z) := Lib.hid ⟨_, rfl⟩
  go_wp2_with fail
  obtain ⟨w3, hw3⟩ := HWE.out
  have HS3 : Hid (Blk w3 s 27 #[.int .i64 m.next, .slice A m.nodes.length c]) := Lib.hid (by rw [← hw3]; exact Blk.new' hs.symm)
  have hb : Below w2.heap.size w2 w3 := by rw [← hw3]; exact (Below.refl _ _).alloc (Nat.le_refl _) _
  (try rw [hs])
  (try rw [hw3])
  have HB3 := Lib.hid (HB2.out.trans (hb.mono HB2.out.size))
  have HX3 := Lib.hid (HX2.out.below hb HX2.out.lt)
  clear HWE hw3 hs x0 x1 hxlt hb HB2 HX2
  refine (great_any (some ⟨s, 0, none⟩) 1 [m] w3 (fun b => b < w3.heap.size) (fun _ h => h) (one_model HS3.out ⟨_, _, rfl, ca1, ca2, RowOf.keep ENode.stays (Keep.refl _ _) (HLW.out w3 HB3.out) (HRA.out w3 HB3.out)⟩ HS3.out.lt) (fun y hy => by
    rcases List.mem_cons.1 hy with rfl | hy
    · exact HZ.out
    · cases hy) (by simp)).mono ?_
  rintro _ w4 ⟨⟨gb, rfl⟩, hb⟩
  have HB4 := Lib.hid (HB3.out.trans (hb.mono HB3.out.size))
  have HX4 := Lib.hid (HX3.out.below hb HX3.out.lt)
  clear hb HB3 HX3 HS3
  have x0 := HX4.out.cell 0; have x1 := HX4.out.cell 1
  have hxlt := HX4.out.lt
  simp at x0 x1
  cases gb
  case true =>
    go_wp2
    go_ret
    exact ⟨by simp, HB4.out⟩
  case false =>
    by_cases hm0 : many < 0
    · have d0 : decide (many < 0) = true := decide_eq_true hm0
      go_wp2
      go_ret
      exact ⟨by simp, HB4.out⟩
    have d0 : decide (many < 0) = false := decide_eq_false hm0
    by_cases hm2 : many > 200
    · have d1 : decide (many > 200) = true := decide_eq_true hm2
      have d1' : decide (200 < many) = true := decide_eq_true hm2
      go_wp2
      go_ret
      exact ⟨by simp, HB4.out⟩
    have d1 : decide (many > 200) = false := decide_eq_false hm2
    have d1' : decide (200 < many) = false := decide_eq_false hm2
    by_cases hm3 : m.next > 1000
    · have d2 : decide (m.next > 1000) = true := decide_eq_true hm3
      have d2' : decide (1000 < m.next) = true := decide_eq_true hm3
      go_wp2
      go_ret
      exact ⟨by simp, HB4.out⟩
    have d2 : decide (m.next > 1000) = false := decide_eq_false hm3
    have d2' : decide (1000 < m.next) = false := decide_eq_false hm3
    obtain ⟨n, rfl⟩ : ∃ n : Nat, many = n := ⟨many.toNat, by omega⟩
    have hn : n ≤ 200 := by omega
    go_wp2_with fail
    clear x0 x1 hxlt d0 d1 d1' d2 d2'
    refine (new_fp (m := m) c (F := fun b => b < w.heap.size) (HLW.out _ HB4.out) (HRA.out _ HB4.out) HZ.out).mono ?_
    rintro _ w5 ⟨pv, rfl, hb, hno, hyes⟩
    have HB5 := Lib.hid (HB4.out.trans (hb.mono HB4.out.size))
    have HX5 := Lib.hid (HX4.out.below hb HX4.out.lt)
    rcases checkI_two m with hE | hE
    rotate_left 1
    · obtain rfl := hno (by rw [hE]; decide)
      rw [hE]
      clear hno hyes hb HB4 HX4
      go_wp2
      go_ret
      exact ⟨by simp, HB5.out⟩
    obtain ⟨p, rfl, hpl, hP⟩ := hyes hE
    have HCK := Lib.hid (check_of_zero hE)
    have h1 : 1 ≤ m.next := (check_of_zero hE).1.1.1
    rw [hE]
    have HP5 : Hid (Pst w5 p (Pn m 0)) := Lib.hid (by rw [Pn_zero]; exact hP)
    have HPL : Hid (w.heap.size < p) := Lib.hid (by have := HX4.out.lt; omega)
    clear hno hyes hP hpl hE hb HB4 HX4 hm0 hm2 hmany
    go_wp2_with fail
    go_loopg [7, 8, 9] n (fun g s7 s8 s9 wx => ∃ i : Nat, s7 = .int .i64 ((i : Int) + 1) ∧ g = n - i ∧ i ≤ n ∧ Below w.heap.size w wx ∧ Blk wx w.heap.size 27 #[.int .i64 m.next, .slice A m.nodes.length c] ∧ Pst wx p (Pn m i))
    case atStart => exact ⟨0, by simp, rfl, Nat.zero_le _, HB5.out, HX5.out, HP5.out⟩
    case round =>
      clear HB5 HX5 HP5
      obtain ⟨i, rfl, rfl, hin, hb, hx, hp⟩ := hrel
      have HB := Lib.hid hb; have HX := Lib.hid hx; have HP := Lib.hid hp
      clear hb hx hp
      by_cases hlt : i < n
      · have hle : (i : Int) + 1 ≤ n := by omega
        have hle' : decide ((i : Int) + 1 ≤ n) = true := decide_eq_true hle
        have hov : m.next + ((i : Int) + 1) ≤ 2000 := by omega
        have x0 := HX.out.cell 0; have x1 := HX.out.cell 1
        have hxlt := HX.out.lt
        simp at x0 x1
        obtain ⟨q, hq⟩ : ∃ x, wr.heap.size = x := ⟨_, rfl⟩
        have HWE : Hid (∃ z, wr.alloc (.cells #[.int .i64 m.next, .slice A m.nodes.length c] 27) = z) := Lib.hid ⟨_, rfl⟩
        go_upto_region 12 with fail
        obtain ⟨w6, hw6⟩ := HWE.out
        have hnew : Blk w6 q 27 #[.int .i64 m.next, .slice A m.nodes.length c] := by rw [← hw6]; exact Blk.new' hq.symm
        have hb : Below wr.heap.size wr w6 := by rw [← hw6]; exact (Below.refl _ _).alloc (Nat.le_refl _) _
        (try rw [hw6])
        (try rw [hq])
        clear HWE hw6 x0 x1 hxlt
        have HQ6 := Lib.hid hnew
        have HB6 := Lib.hid (HB.out.trans (hb.mono HB.out.size))
        have HX6 := Lib.hid (HX.out.below hb HX.out.lt)
        have HC6 := Lib.hid hb
        have HQE : Hid (wr.heap.size = q) := Lib.hid hq
        have HQL : Hid (w.heap.size < q ∧ q ≠ p) := Lib.hid (by have := HX.out.lt; have := HP.out.lt; omega)
        clear hnew hb hq HB HX
        have x0 := HX6.out.cell 0; have x1 := HX6.out.cell 1
        have q0 := HQ6.out.cell 0; have q1 := HQ6.out.cell 1
        have hxlt := HX6.out.lt; have hqlt := HQ6.out.lt
        have f0 := HQ6.out.frozen 0
        simp at x0 x1 q0 q1
        go_upto_region 13 with fail
        clear x0 x1 q0 q1 f0 hxlt hqlt
        obtain ⟨w7, hw7⟩ : ∃ u : World, w6.setCell ⟨q, 0, none⟩ (.int .i64 (m.next + ((i : Int) + 1))) = u := ⟨_, rfl⟩
        have HQ7 : Hid (Blk w7 q 27 #[.int .i64 (m.next + ((i : Int) + 1)), .slice A m.nodes.length c]) := Lib.hid (by rw [← hw7]; simpa using HQ6.out.set_ 0 (.int .i64 (m.next + ((i : Int) + 1))))
        have HX7 : Hid (Blk w7 w.heap.size 27 #[.int .i64 m.next, .slice A m.nodes.length c]) := Lib.hid (by rw [← hw7]; exact HX6.out.far (p := ⟨q, 0, none⟩) (by have := HQL.out; show w.heap.size ≠ q; omega) _)
        have HB7 : Hid (Below w.heap.size w w7) := Lib.hid (by rw [← hw7]; exact HB6.out.setCell (p := ⟨q, 0, none⟩) (Nat.le_of_lt HQL.out.1) _)
        have HP7 : Hid (Pst w7 p (Pn m i)) := Lib.hid (HP.out.up (by rw [← hw7]; exact HC6.out.setCell (p := ⟨q, 0, none⟩) (Nat.le_of_eq HQE.out) _))
        (try rw [hw7])
        clear hw7 HQ6 HX6 HB6 HP HC6 HQE
        have q0 := HQ7.out.cell 0; have q1 := HQ7.out.cell 1
        have hqlt := HQ7.out.lt
        simp at q0 q1
        go_wp2_with fail
        clear q0 q1 hqlt
        have hpu := push_fp (m := nx m (i + 1)) (P := Pn m i) (F2 := fun b => b < w.heap.size) c HP7.out (Pn_fits m i) (HLW.out _ HB7.out) (HRA.out _ HB7.out) (nx_all HZ.out h1 (by omega))
        rw [Pn_push HCK.out (by omega)] at hpu
        refine hpu.mono ?_
        rintro _ w8 ⟨rfl, hk, hp⟩
        clear hpu
        have HB8 := Lib.hid (HB7.out.trans (hk.toBelow HB7.out.size (fun b e => by subst e; exact Nat.le_of_lt HPL.out)))
        have HX8 := Lib.hid (hk.blk HX7.out (by have := HPL.out; omega))
        have HP8 := Lib.hid hp
        clear hk hp HB7 HX7 HP7 HQ7
        go_wp2
        go_roundg (n - (i + 1))
        case measure => omega
        case rel => exact ⟨i + 1, by go_num, rfl, by omega, HB8.out, HX8.out, HP8.out⟩
      · have hle : ¬ (i : Int) + 1 ≤ n := by omega
        have hle' : decide ((i : Int) + 1 ≤ n) = false := decide_eq_false hle
        have hie : i = n := by omega
        subst hie
        have hd := depth_fp HP.out (Pn_fits m i)
        rw [show (Pn m i).ahead.length = min i 64 by unfold Pn; simp, show (Pn m i).behind.length = 0 from rfl] at hd
        obtain ⟨k, hk⟩ : ∃ k, min i 64 = k := ⟨_, rfl⟩
        rw [hk] at hd
        have HK := Lib.hid hk
        go_wp2_with fail
        refine hd.mono ?_
        rintro _ w9 ⟨rfl, hb⟩
        have HB9 := Lib.hid (HB.out.trans (hb.mono HB.out.size))
        have HX9 := Lib.hid (HX.out.below hb HX.out.lt)
        have HP9 : Hid (Pst w9 p (Ut m i 0)) := Lib.hid (by rw [Ut_zero]; exact HP.out.up hb)
        clear hd hb HB HX HP hlt hle hle'
        have hki : k ≤ i := by omega
        by_cases h64 : i ≤ 64
        · have hke : k = i := by omega
          subst hke
          have hmin : min (k : Int) 64 = k := by omega
          have hmin2 : (k : Int) ≤ 64 := by omega
          have hnn : ((k : Int) != k) = false := by simp
          clear h64 hk
          go_wp2_with fail
          (try clear hnn)
          clear hmin hmin2
          go_loopg [12, 13, 14] k (fun g s12 s13 s14 wx => ∃ t : Nat, s12 = .int .i64 ((t : Int) + 1) ∧ g = k - t ∧ t ≤ k ∧ Below w.heap.size w wx ∧ Blk wx w.heap.size 27 #[.int .i64 m.next, .slice A m.nodes.length c] ∧ Pst wx p (Ut m k t))
          case atStart => exact ⟨0, by simp, rfl, Nat.zero_le _, HB9.out, HX9.out, HP9.out⟩
          case round =>
            clear HB9 HX9 HP9
            obtain ⟨t, rfl, rfl, htk, hb, hx, hp⟩ := hrel
            have HB := Lib.hid hb; have HX := Lib.hid hx; have HP := Lib.hid hp
            clear hb hx hp
            by_cases htlt : t < k
            · have hle : (t : Int) + 1 ≤ ((k : Nat) : Int) := by omega
              have hle' : decide ((t : Int) + 1 ≤ ((k : Nat) : Int)) = true := decide_eq_true hle
              have hov : m.next + (k : Int) ≤ 2000 := by omega
              have e1 : (nx m (k - (t + 1))).next = m.next + (k : Int) - ((t : Int) + 1) := by
                show m.next + ((k - (t + 1) : Nat) : Int) = _
                omega
              have hun : Calls Try.prog 18 #[.pointer (some ⟨p, 0, none⟩)] wr fun e w' => ∃ A' c', e = .returned (.tuple #[.agg #[.int .i64 (m.next + (k : Int) - ((t : Int) + 1)), .slice A' m.nodes.length c'], .int .i64 0]) ∧ KeepO (· = p) wr w' ∧ Pst w' p (Ut m k (t + 1)) :=
                (undo_ok HP.out (Ut_fits (by have := HK.out; omega)) (Ut_all HZ.out h1 (by omega) (by have := HK.out; omega)) (Ut_undo (by have := HK.out; omega))).mono fun e w' ⟨A', c', g1, g2, g3, _⟩ => ⟨A', c', by rw [g1, ← e1]; rfl, g2, g3⟩
              go_wp2_with fail
              refine hun.mono ?_
              rintro _ w10 ⟨A', c', rfl, hk, hp⟩
              clear hun
              have HB10 := Lib.hid (HB.out.trans (hk.toBelow HB.out.size (fun b e => by subst e; exact Nat.le_of_lt HPL.out)))
              have HX10 := Lib.hid (hk.blk HX.out (by have := HPL.out; omega))
              have HP10 := Lib.hid hp
              clear hk hp HB HX HP
              obtain ⟨q, hq⟩ : ∃ x, w10.heap.size = x := ⟨_, rfl⟩
              have HWE : Hid (∃ z, w10.alloc (.cells #[.int .i64 (m.next + (k : Int) - ((t : Int) + 1)), .slice A' m.nodes.length c'] 27) = z) := Lib.hid ⟨_, rfl⟩
              go_upto_region 23 with fail
              obtain ⟨w11, hw11⟩ := HWE.out
              have hnew : Blk w11 q 27 #[.int .i64 (m.next + (k : Int) - ((t : Int) + 1)), .slice A' m.nodes.length c'] := by rw [← hw11]; exact Blk.new' hq.symm
              have hb : Below w10.heap.size w10 w11 := by rw [← hw11]; exact (Below.refl _ _).alloc (Nat.le_refl _) _
              (try rw [hw11])
              (try rw [hq])
              clear HWE hw11 hq
              have HB11 := Lib.hid (HB10.out.trans (hb.mono HB10.out.size))
              have HX11 := Lib.hid (HX10.out.below hb HX10.out.lt)
              have HP11 := Lib.hid (HP10.out.up hb)
              clear hb HB10 HX10 HP10
              have q0 := hnew.cell 0; have q1 := hnew.cell 1; have hqlt := hnew.lt
              have x0 := HX11.out.cell 0; have x1 := HX11.out.cell 1; have hxlt := HX11.out.lt
              simp at q0 q1 x0 x1
              clear hnew
              have hne : ((m.next + (k : Int) - ((t : Int) + 1)) != (m.next + (k : Int) - ((t : Int) + 1))) = false := by simp
              have hll : ((m.nodes.length : Int) != m.nodes.length) = false := by simp
              go_wp2
              go_roundg (k - (t + 1))
              case measure => omega
              case rel => exact ⟨t + 1, by go_num, rfl, by omega, HB11.out, HX11.out, HP11.out⟩
            · have hle : ¬ (t : Int) + 1 ≤ ((k : Nat) : Int) := by omega
              have hle' : decide ((t : Int) + 1 ≤ ((k : Nat) : Int)) = false := decide_eq_false hle
              have htt : k = t := by omega
              subst htt
              have hun := undo_no (P := Ut m k (min k 64)) (w := wr) (by have := HP.out; rw [HK.out]; exact this) (Ut_fits (Nat.le_refl _)) (Ut_all HZ.out h1 (by omega) (Nat.le_refl _)) Ut_end
              go_wp2_with fail
              refine hun.mono ?_
              rintro _ w10 ⟨rfl, hk, hp⟩
              have HB10 := Lib.hid (HB.out.trans (hk.toBelow HB.out.size (fun b e => by subst e; exact Nat.le_of_lt HPL.out)))
              clear hun hk hp HB HX HP
              go_wp2
              go_ret
              exact ⟨by simp, HB10.out.alloc HB10.out.size _⟩
        · have hke : k = 64 := by omega
          subst hke
          have hmin : min (i : Int) 64 = 64 := by omega
          have hmin2 : ¬ (i : Int) ≤ 64 := by omega
          clear h64 hk
          go_wp2_with fail
          (try clear hnn)
          clear hmin hmin2
          go_loopg [12, 13, 14] 64 (fun g s12 s13 s14 wx => ∃ t : Nat, s12 = .int .i64 ((t : Int) + 1) ∧ g = 64 - t ∧ t ≤ 64 ∧ Below w.heap.size w wx ∧ Blk wx w.heap.size 27 #[.int .i64 m.next, .slice A m.nodes.length c] ∧ Pst wx p (Ut m i t))
          case atStart => exact ⟨0, by simp, rfl, Nat.zero_le _, HB9.out, HX9.out, HP9.out⟩
          case round =>
            clear HB9 HX9 HP9
            obtain ⟨t, rfl, rfl, htk, hb, hx, hp⟩ := hrel
            have HB := Lib.hid hb; have HX := Lib.hid hx; have HP := Lib.hid hp
            clear hb hx hp
            by_cases htlt : t < 64
            · have hle : (t : Int) + 1 ≤ ((64 : Nat) : Int) := by omega
              have hle' : decide ((t : Int) + 1 ≤ ((64 : Nat) : Int)) = true := decide_eq_true hle
              have hov : m.next + (i : Int) ≤ 2000 := by omega
              have e1 : (nx m (i - (t + 1))).next = m.next + (i : Int) - ((t : Int) + 1) := by
                show m.next + ((i - (t + 1) : Nat) : Int) = _
                omega
              have hun : Calls Try.prog 18 #[.pointer (some ⟨p, 0, none⟩)] wr fun e w' => ∃ A' c', e = .returned (.tuple #[.agg #[.int .i64 (m.next + (i : Int) - ((t : Int) + 1)), .slice A' m.nodes.length c'], .int .i64 0]) ∧ KeepO (· = p) wr w' ∧ Pst w' p (Ut m i (t + 1)) :=
                (undo_ok HP.out (Ut_fits (by have := HK.out; omega)) (Ut_all HZ.out h1 (by omega) (by have := HK.out; omega)) (Ut_undo (by have := HK.out; omega))).mono fun e w' ⟨A', c', g1, g2, g3, _⟩ => ⟨A', c', by rw [g1, ← e1]; rfl, g2, g3⟩
              go_wp2_with fail
              refine hun.mono ?_
              rintro _ w10 ⟨A', c', rfl, hk, hp⟩
              clear hun
              have HB10 := Lib.hid (HB.out.trans (hk.toBelow HB.out.size (fun b e => by subst e; exact Nat.le_of_lt HPL.out)))
              have HX10 := Lib.hid (hk.blk HX.out (by have := HPL.out; omega))
              have HP10 := Lib.hid hp
              clear hk hp HB HX HP
              obtain ⟨q, hq⟩ : ∃ x, w10.heap.size = x := ⟨_, rfl⟩
              have HWE : Hid (∃ z, w10.alloc (.cells #[.int .i64 (m.next + (i : Int) - ((t : Int) + 1)), .slice A' m.nodes.length c'] 27) = z) := Lib.hid ⟨_, rfl⟩
              go_upto_region 23 with fail
              obtain ⟨w11, hw11⟩ := HWE.out
              have hnew : Blk w11 q 27 #[.int .i64 (m.next + (i : Int) - ((t : Int) + 1)), .slice A' m.nodes.length c'] := by rw [← hw11]; exact Blk.new' hq.symm
              have hb : Below w10.heap.size w10 w11 := by rw [← hw11]; exact (Below.refl _ _).alloc (Nat.le_refl _) _
              (try rw [hw11])
              (try rw [hq])
              clear HWE hw11 hq
              have HB11 := Lib.hid (HB10.out.trans (hb.mono HB10.out.size))
              have HX11 := Lib.hid (HX10.out.below hb HX10.out.lt)
              have HP11 := Lib.hid (HP10.out.up hb)
              clear hb HB10 HX10 HP10
              have q0 := hnew.cell 0; have q1 := hnew.cell 1; have hqlt := hnew.lt
              have x0 := HX11.out.cell 0; have x1 := HX11.out.cell 1; have hxlt := HX11.out.lt
              simp at q0 q1 x0 x1
              clear hnew
              have hne : ((m.next + (i : Int) - ((t : Int) + 1)) != (m.next + (i : Int) - ((t : Int) + 1))) = false := by simp
              have hll : ((m.nodes.length : Int) != m.nodes.length) = false := by simp
              go_wp2
              go_roundg (64 - (t + 1))
              case measure => omega
              case rel => exact ⟨t + 1, by go_num, rfl, by omega, HB11.out, HX11.out, HP11.out⟩
            · have hle : ¬ (t : Int) + 1 ≤ ((64 : Nat) : Int) := by omega
              have hle' : decide ((t : Int) + 1 ≤ ((64 : Nat) : Int)) = false := decide_eq_false hle
              have htt : 64 = t := by omega
              subst htt
              have hun := undo_no (P := Ut m i (min i 64)) (w := wr) (by have := HP.out; rw [HK.out]; exact this) (Ut_fits (Nat.le_refl _)) (Ut_all HZ.out h1 (by omega) (Nat.le_refl _)) Ut_end
              go_wp2_with fail
              refine hun.mono ?_
              rintro _ w10 ⟨rfl, hk, hp⟩
              have HB10 := Lib.hid (HB.out.trans (hk.toBelow HB.out.size (fun b e => by subst e; exact Nat.le_of_lt HPL.out)))
              clear hun hk hp HB HX HP
              go_wp2
              go_ret
              exact ⟨by simp, HB10.out.alloc HB10.out.size _⟩
end Go.Proofs.Ytpjkifbicfcajaa
