import Derived.Test.YtgcbnndbeoekgaaTermA
import Derived.Test.YtgcbnndbeoekgaaSims
set_option linter.unusedSimpArgs false
set_option linter.unusedVariables false
namespace Go.Proofs.Ytgcbnndbeoekgaa
open Go Go.RowKit

/-- the reader's place, read out of memory: for a measure -/
def atOf (B : Nat) (w : World) : Nat := match w.cell? ⟨B, 1, none⟩ with | some (.int _ n) => n.toNat | _ => 0
theorem Rd.atOf {w : World} {B : Nat} {s : ByteArray} {j : Nat} {ts : List TN} (h : Rd w B s j ts) : atOf B w = j := by
  obtain ⟨_, v, hb, _⟩ := h
  have c1 := hb.cell 1
  simp at c1
  unfold Ytgcbnndbeoekgaa.atOf; rw [c1]; simp
theorem meas_lt {w w' : World} {B : Nat} {s : ByteArray} {j : Nat} {ts ts' : List TN} (h : Rd w B s (j + 1) ts) (h' : Rd w' B s j ts') (hj : j < s.size) : s.size - Ytgcbnndbeoekgaa.atOf B w < s.size - Ytgcbnndbeoekgaa.atOf B w' := by
  rw [h.atOf, h'.atOf]; omega
/-- a store into a cell of a node of the reader's -/
theorem Rd.stored {w : World} {B : Nat} {s : ByteArray} {j : Nat} {ts : List TN} {g cap n : Nat} (hj : j ≤ s.size) (hb : Blk w B 62 #[.string s, .int .i64 j, .slice (some ⟨g, 0, none⟩) n cap]) (ho : OwnNodes 66 3 w B (.slice (some ⟨g, 0, none⟩) n cap) ts)
    {i k : Nat} (hi : i < ts.length) (hk : k < 3) {u : Value} {t : TN} (ha : t.args = ts[i].args) (hu : ∀ a, (nodeCells ts[i] a).set k u = nodeCells t a) : Rd (w.setCell ⟨g, i * 3 + k, none⟩ u) B s j (ts.set i t) := by
  have hne : g ≠ B := fun e => ho.ne_blk hb (by decide) (by rw [e]; rfl)
  exact ⟨hj, _, hb.far (fun e => hne e.symm) _, ho.store (by decide) hi hk ha hu⟩
/-- what holds at the head of the loop over a hole's digits -/
def DigL (B : Nat) (s : ByteArray) (i j m : Nat) (ts : List TN) (w wr : World) : Prop := Rd wr B s j ts ∧ Below B w wr ∧ DigR s i j m

set_option maxRecDepth 100000 in
set_option maxHeartbeats 2000000 in
theorem term_hole (B : Nat) (s : ByteArray) (i : Nat) (ts : List TN) (w : World) (hs : s.size ≤ 9223372036854775807) (h : Rd w B s i ts) (hlt : i < s.size) (h63 : ((s[i].toNat : Int) == 63) = true) (hlen : ts.length < 256) (hB : B < w.heap.size) :
    Calls Try.prog 22 #[.pointer (some ⟨B, 0, none⟩)] w (TermPost B s i ts w) := by
  have H := Lib.hid h
  obtain ⟨hi, v, hb, ho⟩ := h
  have c0 := hb.cell 0; have c1 := hb.cell 1; have c2 := hb.cell 2
  simp at c0 c1 c2
  obtain ⟨A, c, rfl⟩ := ho.shape
  have hl256 : ((ts.length : Int) == 256) = false := beq_eq_false_iff_ne.2 (by omega)
  have f2 := hb.frozen 2
  have hl' : ((i : Int) == s.size) = false := beq_eq_false_iff_ne.2 (by omega)
  have hl2 : (i : Int) < s.size := by omega
  have h63' : ((s[i].toNat : Int) != 63) = false := by rw [bne_eq_false_iff_eq]; exact beq_iff_eq.1 h63
  go_enter Try.func22, Try.ntmps22
  go_wp2
  go_quiet (fail)
  go_wp2_with (at_builtin; go_loud (refine wpList_pushNode _ (by decide) rfl _ _ 22 rfl B Try.underlying22 tn_info rfl _ ts rfl ((ho.drewN _).alloc _) TN.zero rfl ⟨w.heap.size, 0, none⟩ 1 rfl (news_cells (cs := #[.int .i64 0, .string { data := #[] }, .slice none 0 0]) (Blk.new' (by rfl))) (by unfold maxLen; omega) (by omega) (by simp; omega) ?_))
  intro A1 c1' w1 own1 hg1
  obtain ⟨hb1, hR1⟩ := Rd.pushed hi ((hb.drewN _).alloc _) ((ho.drewN _).alloc _) hg1 own1
  have hbel1 : Below B w w1 := ((below_drewN (Below.refl _ _) _).alloc (by simp; omega) _).grown hg1 (by simp; omega) (fun b e => (ho.ownLt b e).1)
  have HB1 := Lib.hid hbel1
  have d0 := hb1.cell 0; have d1 := hb1.cell 1; have d2 := hb1.cell 2; have g2 := hb1.frozen 2
  simp at d0 d1 d2
  clear own1 hg1 hb1 hbel1 c0 c1 c2 f2 ho hb
  go_wp2_with fail
  refine (is_any B s i (ts ++ [TN.zero]) 63 _ hs hR1).mono ?_
  rintro e w2 ⟨hb2, hcase⟩
  rcases hcase with ⟨rfl, hyes, hR2⟩ | ⟨rfl, hno, _⟩
  rotate_left
  · exact absurd (beq_iff_eq.1 h63) (hno hlt)
  have hb2' : Below B w w2 := (HB1.out.setCell (p := ⟨B, 2, none⟩) (Nat.le_refl _) _).trans hb2
  have HB2 := Lib.hid hb2'
  have HR2 := Lib.hid hR2
  clear hb2 hb2' hR1 hR2 d0 d1 d2 g2 hyes
  have hN : ∀ n : Nat, (ts ++ [TN.zero]).length = ts.length + 1 := fun _ => by simp
  go_wp2_with fail
  go_loopw [4] (fun n wr => ∃ (j m : Nat), n = .int .i64 m ∧ DigL B s i j m (ts ++ [TN.zero]) w wr) (fun _ wr => s.size - atOf B wr)
  case atStart => exact ⟨i + 1, 0, rfl, HR2.out, HB2.out, DigR.start hlt⟩
  case round =>
    obtain ⟨j, m, rfl, hL⟩ := hrel
    have HL := Lib.hid hL
    obtain ⟨⟨hj, v, hb, ho⟩, hbel, hD⟩ := hL
    have hm := hD.le
    have hD' := Lib.hid hD; clear hD; have hD := hD'; clear hD'
    obtain ⟨A3, c3, rfl⟩ := ho.shape
    have c0 := hb.cell 0; have c1 := hb.cell 1; have c2 := hb.cell 2; have f1 := hb.frozen 1
    simp at c0 c1 c2
    clear ho hb hbel
    by_cases hjt : j < s.size
    · have hj2 : (j : Int) < s.size := by omega
      have hr := byte_range s[j]
      by_cases d1 : (48 : Int) ≤ s[j].toNat
      · by_cases d2 : (s[j].toNat : Int) ≤ 57
        · have hf : Hid (figureB s[j] = true) := Lib.hid (by simp [figureB, figureI, d1, d2])
          have k1 : IntKind.u8.wrap ((s[j].toNat : Int) - 48) = (s[j].toNat : Int) - 48 := IntWalk.u8_in _ ⟨by omega, by omega⟩
          have k2 : IntKind.i64.wrap ((s[j].toNat : Int) - 48) = (s[j].toNat : Int) - 48 := IntWalk.i64_in _ ⟨by omega, by omega⟩
          go_wp2
          go_quiet (fail)
          go_wp2
          go_quiet (fail)
          clear k1 k2
          by_cases hz : m = 0 ∧ s[j].toNat = 48
          · have hfin := Lib.hid (show Sim s i ts 2 j (ts ++ [TN.zero]) by
              obtain ⟨e1, e2⟩ := hz
              subst e1
              exact sim_nohole hlt h63 hlen hD.out (hD.out.zero hjt ⟨rfl, e2⟩))
            have z1 : ((m : Int) == 0) = true := beq_iff_eq.2 (by omega)
            have z2 : ((s[j].toNat : Int) - 48 == 0) = true := beq_iff_eq.2 (by omega)
            clear hz
            go_wp2
            go_ret
            exact ⟨2, j, ts ++ [TN.zero], rfl, by simpa using HL.out.1.drewN _, by simpa using below_drewN HL.out.2.1 _, hfin.out⟩
          · by_cases hq : (2147483647 - ((s[j].toNat : Int) - 48)) / 10 < m
            · have hfin := Lib.hid (sim_bighole (l' := ts ++ [TN.zero]) hlt h63 hlen hD.out hjt hf.out (by omega))
              clear hz
              go_wp2
              all_goals go_ret
              all_goals exact ⟨2, j, ts ++ [TN.zero], rfl, by simpa using HL.out.1.drewN _, by simpa using below_drewN HL.out.2.1 _, hfin.out⟩
            · have hnx := Lib.hid (hD.out.next hjt hf.out hz (by omega))
              have hmx : 10 * (m : Int) + ((s[j].toNat : Int) - 48) ≤ 2147483647 := by omega
              have hrd : ∀ nq : Nat, Rd ((wr.drewN nq).setCell ⟨B, 1, none⟩ (.int .i64 ((j : Int) + 1))) B s (j + 1) (ts ++ [TN.zero]) := fun nq => (HL.out.1.drewN nq).to hjt (by simp)
              have hbl : ∀ nq : Nat, Below B w ((wr.drewN nq).setCell ⟨B, 1, none⟩ (.int .i64 ((j : Int) + 1))) := fun nq => (below_drewN HL.out.2.1 nq).setCell (p := ⟨B, 1, none⟩) (Nat.le_refl _) _
              have HRD := Lib.hid hrd; have HBL := Lib.hid hbl
              clear hrd hbl
              by_cases hm0 : m = 0
              · have z2 : ((s[j].toNat : Int) - 48 == 0) = false := beq_eq_false_iff_ne.2 (by omega)
                have z1 : ((m : Int) == 0) = true := beq_iff_eq.2 (by omega)
                have hv : 10 * (m : Int) + ((s[j].toNat : Int) - 48) = (s[j].toNat : Int) - 48 := by omega
                have HV := Lib.hid hv
                clear hz hm0 hv
                go_wp2
                go_roundw
                case rel => exact ⟨j + 1, 10 * m + (s[j].toNat - 48), by first | go_num | (rw [← HV.out]; go_num), HRD.out _, HBL.out _, hnx.out⟩
                case measure => exact meas_lt (HRD.out _) HL.out.1 hjt
              · have z1 : ((m : Int) == 0) = false := beq_eq_false_iff_ne.2 (by omega)
                clear hz hm0
                go_wp2
                go_roundw
                case rel => exact ⟨j + 1, 10 * m + (s[j].toNat - 48), by go_num, HRD.out _, HBL.out _, hnx.out⟩
                case measure => exact meas_lt (HRD.out _) HL.out.1 hjt
        · have hp := Lib.hid (hD.out.nofig hjt (by simp [figureB, figureI, d2]))
          have d3 : decide ((s[j].toNat : Int) ≤ 57) = false := decide_eq_false d2
          go_wp2
          go_quiet (fail)
          by_cases hm0 : m = 0
          · subst hm0
            have hfin := Lib.hid (sim_nohole (l' := ts ++ [TN.zero]) hlt h63 hlen hD.out hp.out)
            go_wp2
            go_ret
            exact ⟨2, j, ts ++ [TN.zero], rfl, HL.out.1.drewN _, below_drewN HL.out.2.1 _, hfin.out⟩
          · have hm1 : ((m : Int) == 0) = false := beq_eq_false_iff_ne.2 (by omega)
            have hfin := Lib.hid (sim_hole hlt h63 hlen hD.out hp.out (Nat.pos_of_ne_zero hm0))
            have HR3 := Lib.hid (HL.out.1)
            obtain ⟨_, v4, hb, ho⟩ := HR3.out
            obtain ⟨g, cap, av, rfl, hBg, hg, e0, e1, e2, q0, q1, q2, _, _, hcap, hcap2⟩ := ho.at_ (i := ts.length) (by simp)
            have c2' := hb.cell 2
            simp at c2' e0 e1 e2
            have HO := Lib.hid ho; have HB := Lib.hid hb
            clear ho hb c2
            have HST := Lib.hid (fun nq : Nat => Rd.stored (k := 0) (u := .int .i64 m) (t := ⟨m, ByteArray.empty, []⟩) HR3.out.1 (HB.out.drewN nq) (HO.out.drewN nq) (i := ts.length) (by simp) (by decide) (by simp [TN.zero]) (by intro a; simp [nodeCells, TN.zero]))
            have HBL := Lib.hid (fun nq : Nat => (below_drewN HL.out.2.1 nq).setCell (p := ⟨g, ts.length * 3, none⟩) hBg (.int .i64 m))
            go_wp2
            go_ret
            refine ⟨0, j, _, rfl, ?_, HBL.out _, hfin.out⟩
            have := HST.out nq
            rw [set_last rfl] at this
            exact this

      · have hp := Lib.hid (hD.out.nofig hjt (by simp [figureB, figureI, d1]))
        have d3 : decide ((48 : Int) ≤ s[j].toNat) = false := decide_eq_false d1
        go_wp2
        go_quiet (fail)
        by_cases hm0 : m = 0
        · subst hm0
          have hfin := Lib.hid (sim_nohole (l' := ts ++ [TN.zero]) hlt h63 hlen hD.out hp.out)
          go_wp2
          go_ret
          exact ⟨2, j, ts ++ [TN.zero], rfl, HL.out.1.drewN _, below_drewN HL.out.2.1 _, hfin.out⟩
        · have hm1 : ((m : Int) == 0) = false := beq_eq_false_iff_ne.2 (by omega)
          have hfin := Lib.hid (sim_hole hlt h63 hlen hD.out hp.out (Nat.pos_of_ne_zero hm0))
          have HR3 := Lib.hid (HL.out.1)
          obtain ⟨_, v4, hb, ho⟩ := HR3.out
          obtain ⟨g, cap, av, rfl, hBg, hg, e0, e1, e2, q0, q1, q2, _, _, hcap, hcap2⟩ := ho.at_ (i := ts.length) (by simp)
          have c2' := hb.cell 2
          simp at c2' e0 e1 e2
          have HO := Lib.hid ho; have HB := Lib.hid hb
          clear ho hb c2
          have HST := Lib.hid (fun nq : Nat => Rd.stored (k := 0) (u := .int .i64 m) (t := ⟨m, ByteArray.empty, []⟩) HR3.out.1 (HB.out.drewN nq) (HO.out.drewN nq) (i := ts.length) (by simp) (by decide) (by simp [TN.zero]) (by intro a; simp [nodeCells, TN.zero]))
          have HBL := Lib.hid (fun nq : Nat => (below_drewN HL.out.2.1 nq).setCell (p := ⟨g, ts.length * 3, none⟩) hBg (.int .i64 m))
          go_wp2
          go_ret
          refine ⟨0, j, _, rfl, ?_, HBL.out _, hfin.out⟩
          have := HST.out nq
          rw [set_last rfl] at this
          exact this

    · have hp := Lib.hid (holeP_ge (i := i) hjt)
      have hj2 : decide ((j : Int) < s.size) = false := decide_eq_false (by omega)
      go_wp2
      go_quiet (fail)
      by_cases hm0 : m = 0
      · subst hm0
        have hfin := Lib.hid (sim_nohole (l' := ts ++ [TN.zero]) hlt h63 hlen hD.out hp.out)
        go_wp2
        go_ret
        exact ⟨2, j, ts ++ [TN.zero], rfl, HL.out.1.drewN _, below_drewN HL.out.2.1 _, hfin.out⟩
      · have hm1 : ((m : Int) == 0) = false := beq_eq_false_iff_ne.2 (by omega)
        have hfin := Lib.hid (sim_hole hlt h63 hlen hD.out hp.out (Nat.pos_of_ne_zero hm0))
        have HR3 := Lib.hid (HL.out.1)
        obtain ⟨_, v4, hb, ho⟩ := HR3.out
        obtain ⟨g, cap, av, rfl, hBg, hg, e0, e1, e2, q0, q1, q2, _, _, hcap, hcap2⟩ := ho.at_ (i := ts.length) (by simp)
        have c2' := hb.cell 2
        simp at c2' e0 e1 e2
        have HO := Lib.hid ho; have HB := Lib.hid hb
        clear ho hb c2
        have HST := Lib.hid (fun nq : Nat => Rd.stored (k := 0) (u := .int .i64 m) (t := ⟨m, ByteArray.empty, []⟩) HR3.out.1 (HB.out.drewN nq) (HO.out.drewN nq) (i := ts.length) (by simp) (by decide) (by simp [TN.zero]) (by intro a; simp [nodeCells, TN.zero]))
        have HBL := Lib.hid (fun nq : Nat => (below_drewN HL.out.2.1 nq).setCell (p := ⟨g, ts.length * 3, none⟩) hBg (.int .i64 m))
        go_wp2
        go_ret
        refine ⟨0, j, _, rfl, ?_, HBL.out _, hfin.out⟩
        have := HST.out nq
        rw [set_last rfl] at this
        exact this

end Go.Proofs.Ytgcbnndbeoekgaa
