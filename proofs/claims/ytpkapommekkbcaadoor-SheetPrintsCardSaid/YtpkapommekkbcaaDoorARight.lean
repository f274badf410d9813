import Derived.Test.YtpkapommekkbcaaDoorAPlainRef
import Derived.Lib.QuietBelow
import Derived.Deep.DeepCutAuto
set_option linter.unusedSimpArgs false
set_option linter.unusedVariables false
namespace Go.Proofs.YtpkapommekkbcaaDoor
open Go Go.RowKit

/-- the texts in a node are no longer than texts are -/
def StrOK (x : ANode) : Prop := x.concept.size ≤ 9223372036854775807 ∧ x.role.size ≤ 9223372036854775807 ∧ (∀ p ∈ x.props, p.name.size ≤ 9223372036854775807 ∧ p.value.size ≤ 9223372036854775807) ∧ ∀ r ∈ x.refs, r.role.size ≤ 9223372036854775807
open Classical in
noncomputable def rightM (m : AModel) : Bool := decide (RightM m)
open Classical in
theorem rightM_no {m : AModel} (h : ¬ RightM m) : rightM m = false := decide_eq_false h
open Classical in
theorem rightM_yes {m : AModel} (h : RightM m) : rightM m = true := decide_eq_true h
open Classical in
theorem plainB_is {m : AModel} {n : ANode} {b : Bool} (h : plainB m n = b) : Plain m n ↔ b = true := by rw [← h]; exact (decide_eq_true_iff).symm
open Classical in
theorem belB_is {m : AModel} {n : ANode} {b : Bool} (h : belB m n = b) : Bel m 64 n ↔ b = true := by rw [← h]; exact (decide_eq_true_iff).symm
def IdsTo (m : AModel) (k : Nat) : Prop := ∀ j, j < k → IdAt m j
theorem IdsTo.next {m : AModel} {k : Nat} (h : IdsTo m k) (hk : IdAt m k) : IdsTo m (k + 1) := fun j hj => by
  rcases Nat.lt_succ_iff_lt_or_eq.1 hj with h' | h'
  · exact h j h'
  · subst h'; exact hk
def NodesTo (m : AModel) (k : Nat) : Prop := ∀ j (h : j < m.nodes.length), j < k → Plain m m.nodes[j] ∧ Bel m 64 m.nodes[j]
theorem NodesTo.next {m : AModel} {k : Nat} (h : NodesTo m k) (hk : ∀ h : k < m.nodes.length, Plain m m.nodes[k] ∧ Bel m 64 m.nodes[k]) : NodesTo m (k + 1) := fun j hj hjk => by
  rcases Nat.lt_succ_iff_lt_or_eq.1 hjk with h' | h'
  · exact h j hj h'
  · subst h'; exact hk hj
theorem mem_of_getElem' {m : AModel} {k : Nat} (h : k < m.nodes.length) : m.nodes[k] ∈ m.nodes := List.getElem_mem h

theorem res_is {f : FuncId} {args : Array Value} {w : World} {p b : Bool} {R : World → Prop} (h : p = b) (hc : Calls Tryd.prog f args w fun e w' => e = .returned (.bool p) ∧ R w') : Calls Tryd.prog f args w fun e w' => e = .returned (.bool b) ∧ R w' := by
  rw [h] at hc; exact hc

set_option maxRecDepth 100000 in
set_option maxHeartbeats 2000000 in
theorem right_any (A : Option Addr) (c : Nat) (m : AModel) (w : World) (F : Nat → Prop) (hF : ∀ b, F b → b < w.heap.size) (h : RowOf 7 ENode w F A m.nodes) (hz : ∀ x ∈ m.nodes, StrOK x) (hl : m.nodes.length ≤ 9223372036854775807) :
    Calls Tryd.prog 20 #[.agg #[.int .i64 m.next, .slice A m.nodes.length c]] w fun e w' => e = .returned (.bool (rightM m)) ∧ Below w.heap.size w w' := by
  by_cases h1 : m.next < 1
  · have E := Lib.hid (rightM_no (m := m) (fun h => by have := h.1.1.1; omega))
    go_enter Tryd.func20, Tryd.ntmps20
    go_wp2
    go_ret
    exact ⟨by rw [E.out]; rfl, (Below.refl _ _).alloc (Nat.le_refl _) _⟩
  · by_cases h2 : 1048577 < m.next
    · have E := Lib.hid (rightM_no (m := m) (fun h => by have := h.1.1.2.1; omega))
      have h1' : 1 ≤ m.next := by omega
      go_enter Tryd.func20, Tryd.ntmps20
      go_wp2
      go_ret
      exact ⟨by rw [E.out]; rfl, (Below.refl _ _).alloc (Nat.le_refl _) _⟩
    · by_cases h3 : 4096 < m.nodes.length
      · have E := Lib.hid (rightM_no (m := m) (fun h => by have := h.1.1.2.2; omega))
        have h1' : 1 ≤ m.next := by omega
        have h2' : m.next ≤ 1048577 := by omega
        have h3' : (4096 : Int) < m.nodes.length := by omega
        go_enter Tryd.func20, Tryd.ntmps20
        go_wp2
        go_ret
        exact ⟨by rw [E.out]; rfl, (Below.refl _ _).alloc (Nat.le_refl _) _⟩
      · have HH : HeadOK m := ⟨by omega, by omega, by omega⟩
        have h1' : decide (m.next < 1) = false := decide_eq_false h1
        have h2' : decide (1048577 < m.next) = false := decide_eq_false h2
        have h3' : decide ((4096 : Int) < m.nodes.length) = false := decide_eq_false (by omega)
        have h3'' : decide (4096 < m.nodes.length) = false := decide_eq_false h3
        have hl4 : m.nodes.length ≤ 4096 := by omega
        go_enter Tryd.func20, Tryd.ntmps20
        go_wp2_with fail
        go_loopg [3] m.nodes.length (fun g s3 wx => ∃ k : Nat, s3 = .int .i64 k ∧ g = m.nodes.length - k ∧ k ≤ m.nodes.length ∧ Below w.heap.size w wx ∧ Blk wx w.heap.size 24 #[.int .i64 m.next, .slice A m.nodes.length c] ∧ IdsTo m k)
        case atStart => exact ⟨0, rfl, rfl, Nat.zero_le _, (Below.refl _ _).alloc (Nat.le_refl _) _, Blk.new _ _ _, fun j hj => absurd hj (Nat.not_lt_zero _)⟩
        case round =>
          obtain ⟨k, rfl, rfl, hkk, hb, hmb, hall⟩ := hrel
          have HB := Lib.hid hb; have HM := Lib.hid hmb; have HA := Lib.hid hall
          have m0 := hmb.cell 0; have m1 := hmb.cell 1
          have hmlt := hmb.lt
          simp at m0 m1
          clear hmb hall
          by_cases hlt : k < m.nodes.length
          · have hlt' : (k : Int) < m.nodes.length := by omega
            have k0 : (0 : Int) ≤ k := by omega
            have hR := RowOf.keep ENode.stays (Keep.below hb hF) (F' := F) (fun _ h => h) h
            obtain ⟨b, off, Sp, cp, Sk, ck, Sr, cr, rfl, hbF, d0, _⟩ := node_at hR hlt
            have HR := Lib.hid hR
            clear hR hb
            by_cases hv : m.nodes[k].id < 1
            · have E := Lib.hid (rightM_no (m := m) (fun h => by have := (h.1.2 k hlt).1; omega))
              go_wp2
              go_quiet (fail)
              go_wp2
              go_ret
              exact ⟨by rw [E.out]; rfl, below_drewN HB.out _⟩
            · have hv' : decide (m.nodes[k].id < 1) = false := decide_eq_false hv
              by_cases hu : m.next ≤ m.nodes[k].id
              · have E := Lib.hid (rightM_no (m := m) (fun h => by have := (h.1.2 k hlt).2.1; omega))
                go_wp2
                go_quiet (fail)
                go_wp2
                go_ret
                exact ⟨by rw [E.out]; rfl, below_drewN HB.out _⟩
              · have hu' : decide (m.next ≤ m.nodes[k].id) = false := decide_eq_false hu
                by_cases hk0 : k = 0
                · subst hk0
                  have g0 : decide ((0 : Int) < ((0 : Nat) : Int)) = false := by decide
                  simp only [Nat.zero_mul, Nat.add_zero, Nat.zero_add] at d0
                  have g2 : (0 : Int) < m.nodes.length := by omega
                  have HP := Lib.hid (show IdAt m 0 from fun _ => ⟨by omega, by omega, fun h => absurd h (by omega)⟩)
                  clear hv hu
                  go_wp2
                  go_quiet (fail)
                  go_wp2
                  go_roundg (m.nodes.length - (0 + 1))
                  case measure => omega
                  case rel => exact ⟨0 + 1, by go_num, rfl, by omega, below_drewN HB.out _, HM.out.drewN _, HA.out.next HP.out⟩
                · obtain ⟨i, rfl⟩ : ∃ i, k = i + 1 := ⟨k - 1, by omega⟩
                  obtain ⟨b', off', _, _, _, _, _, _, e', _, d2, _⟩ := node_at HR.out (show i < m.nodes.length by omega)
                  injection e' with e'
                  injection e' with e1 e2
                  subst e1; subst e2
                  have q1 : IntKind.i64.wrap (((i + 1 : Nat) : Int) - 1) = i := by rw [IntWalk.i64_in _ ⟨by omega, by omega⟩]; omega
                  have q2 : (i : Int) < m.nodes.length := by omega
                  have q3 : (0 : Int) ≤ i := by omega
                  have q4 : (0 : Int) < ((i + 1 : Nat) : Int) := by omega
                  have q7 : (i : Int) + 1 < m.nodes.length := by omega
                  have q8 : (0 : Int) ≤ (i : Int) + 1 := by omega
                  have q9 : ((i : Int) + 1).toNat = i + 1 := by omega
                  have q5 : (0 : Int) < (i : Int) + 1 := by omega
                  have q6 : IntKind.i64.wrap ((i : Int) + 1 - 1) = i := by rw [IntWalk.i64_in _ ⟨by omega, by omega⟩]; omega
                  by_cases hg : m.nodes[i + 1].id ≤ m.nodes[i].id
                  · have E := Lib.hid (rightM_no (m := m) (fun h => by have := (h.1.2 (i + 1) hlt).2.2 (by omega); simp only [Nat.add_sub_cancel] at this; omega))
                    clear hv hu
                    go_wp2
                    go_quiet (fail)
                    go_wp2
                    go_ret
                    exact ⟨by rw [E.out]; rfl, below_drewN HB.out _⟩
                  · have HP := Lib.hid (show IdAt m (i + 1) from fun _ => ⟨by omega, by omega, fun _ => by simp only [Nat.add_sub_cancel]; omega⟩)
                    have hg' : decide (m.nodes[i + 1].id ≤ m.nodes[i].id) = false := decide_eq_false hg
                    clear hv hu hg
                    go_wp2
                    go_quiet (fail)
                    go_wp2
                    go_roundg (m.nodes.length - (i + 1 + 1))
                    case measure => omega
                    case rel => exact ⟨i + 1 + 1, by go_num, rfl, by omega, below_drewN HB.out _, HM.out.drewN _, HA.out.next HP.out⟩
          · have hlt' : decide ((k : Int) < m.nodes.length) = false := decide_eq_false (by omega)
            have HI : Hid (IdsOK m) := Lib.hid ⟨HH, fun i hi => HA.out i (by omega) hi⟩
            obtain ⟨wp, rfl⟩ : ∃ wp : World, wp = wr := ⟨_, rfl⟩
            go_wp2_with fail
            clear HA m0 m1 hmlt hkk hlt hlt' hb
            go_loopg [4] m.nodes.length (fun g s3 wx => ∃ k : Nat, s3 = .int .i64 k ∧ g = m.nodes.length - k ∧ k ≤ m.nodes.length ∧ Below w.heap.size w wx ∧ Blk wx w.heap.size 24 #[.int .i64 m.next, .slice A m.nodes.length c] ∧ NodesTo m k)
            case atStart => exact ⟨0, rfl, rfl, Nat.zero_le _, HB.out, HM.out, fun j _ hj => absurd hj (Nat.not_lt_zero _)⟩
            case round =>
              clear HB HM
              obtain ⟨k, rfl, rfl, hkk, hb, hmb, hall⟩ := hrel
              have HB := Lib.hid hb; have HM := Lib.hid hmb; have HA := Lib.hid hall
              have m0 := hmb.cell 0; have m1 := hmb.cell 1
              have hmlt := hmb.lt
              simp at m0 m1
              clear hmb hall
              by_cases hlt : k < m.nodes.length
              · have hlt' : (k : Int) < m.nodes.length := by omega
                have k0 : (0 : Int) ≤ k := by omega
                have hR := RowOf.keep ENode.stays (Keep.below hb hF) (F' := F) (fun _ h => h) h
                obtain ⟨b, off, Sp, cp, Sk, ck, Sr, cr, rfl, hbF, d0, d1, d2, d3, d4, d5, d6, ⟨_, hp2, hp3⟩, ⟨_, hk2, hk3⟩, ⟨_, hr2, hr3⟩⟩ := node_at hR hlt
                have hzz := hz _ (mem_of_getElem' hlt)
                have hbw := hF _ hbF
                have hsz := hb.size
                have HPl := Lib.hid (fun (w0 : World) (hb0 : Below wr.heap.size wr w0) => plain_any (some ⟨b, off, none⟩) c m m.nodes[k] Sp Sk Sr cp ck cr w0 F (fun b hb' => by have := hF b hb'; have := hb0.size; omega) (h.keep ENode.stays (Keep.below (hb.trans (hb0.mono hsz)) hF) (fun _ h => h)) HI.out.srt (by omega) (hp3.keep EProp.stays (Keep.below hb0 (fun b hb' => by have := hF b hb'; omega)) (fun _ h => h)) (hk3.keep EInt.stays (Keep.below hb0 (fun b hb' => by have := hF b hb'; omega)) (fun _ h => h)) (hr3.keep ERef.stays (Keep.below hb0 (fun b hb' => by have := hF b hb'; omega)) (fun _ h => h)) (by unfold maxLen at hp2; omega) (by unfold maxLen at hk2; omega) (by unfold maxLen at hr2; omega) hzz.1 hzz.2.2.1 hzz.2.2.2)
                have HBe := Lib.hid (fun (w0 : World) (hb0 : Below wr.heap.size wr w0) => below_any (some ⟨b, off, none⟩) c m m.nodes[k] Sp Sk Sr cp ck cr w0 F (fun b hb' => by have := hF b hb'; have := hb0.size; omega) (h.keep ENode.stays (Keep.below (hb.trans (hb0.mono hsz)) hF) (fun _ h => h)) HI.out.srt (by omega) (fun x hx => (hz x hx).2.1) (mem_of_getElem' hlt))
                clear hR hb hp2 hp3 hk2 hk3 hr2 hr3 hzz
                have hb1 : b < wr.heap.size := by omega
                go_upto_region 11 with fail
                go_cut [88] (fun s88 wx => s88 = .bool (!(plainB m m.nodes[k] && belB m m.nodes[k])) ∧ Below wr.heap.size wr wx)
                case first =>
                  cases hpl : plainB m m.nodes[k]
                  · have HPL := Lib.hid (fun w0 hb0 => res_is hpl (HPl.out w0 hb0))
                    have HE1 := Lib.hid hpl
                    clear hpl
                    have k0 := cell_regrown m0; have k1 := cell_regrown m1
                    have e0 := cell_regrown d0; have e1 := cell_regrown d1; have e2 := cell_regrown d2; have e3 := cell_regrown d3; have e4 := cell_regrown d4; have e5 := cell_regrown d5; have e6 := cell_regrown d6
                    have CP := Lib.hid (fun (d : Nat) (os : Array Obj) => Calls.regrown_of (HPL.out _ (below_regrown wr d os)))
                    clear m0 m1 d0 d1 d2 d3 d4 d5 d6
                    refine wp_region_quiet_below (by kernel_rfl) (by kernel_rfl) ?_
                    repeat (first | go_big_quiet_step (exact CP.out _ _) | quiet_step (exact CP.out _ _))
                    refine wpQuiet_nil ?_
                    intro _ hw'
                    obtain ⟨⟨dq, osq⟩, hw''⟩ := hw'
                    subst hw''
                    go_wp2
                    go_meet
                    case rel => exact ⟨by rw [HE1.out]; rfl, below_regrown wr dq osq⟩
                  · have HPL := Lib.hid (fun w0 hb0 => res_is hpl (HPl.out w0 hb0))
                    have HE1 := Lib.hid hpl
                    clear hpl
                    cases hbl : belB m m.nodes[k]
                    · have HBL := Lib.hid (fun w0 hb0 => res_is hbl (HBe.out w0 hb0))
                      have HE2 := Lib.hid hbl
                      clear hbl
                      have k0 := cell_regrown m0; have k1 := cell_regrown m1
                      have e0 := cell_regrown d0; have e1 := cell_regrown d1; have e2 := cell_regrown d2; have e3 := cell_regrown d3; have e4 := cell_regrown d4; have e5 := cell_regrown d5; have e6 := cell_regrown d6
                      have CP := Lib.hid (fun (d : Nat) (os : Array Obj) => Calls.regrown_of (HPL.out _ (below_regrown wr d os)))
                      have CB := Lib.hid (fun (d : Nat) (os : Array Obj) => Calls.regrown_of (HBL.out _ (below_regrown wr d os)))
                      clear m0 m1 d0 d1 d2 d3 d4 d5 d6
                      refine wp_region_quiet_below (by kernel_rfl) (by kernel_rfl) ?_
                      repeat (first | go_big_quiet_step ((first | exact CP.out _ _ | exact CB.out _ _)) | quiet_step ((first | exact CP.out _ _ | exact CB.out _ _)))
                      refine wpQuiet_nil ?_
                      intro _ hw'
                      obtain ⟨⟨dq, osq⟩, hw''⟩ := hw'
                      subst hw''
                      go_wp2
                      go_meet
                      case rel => exact ⟨by rw [HE1.out, HE2.out]; rfl, below_regrown wr dq osq⟩
                    · have HBL := Lib.hid (fun w0 hb0 => res_is hbl (HBe.out w0 hb0))
                      have HE2 := Lib.hid hbl
                      clear hbl
                      have k0 := cell_regrown m0; have k1 := cell_regrown m1
                      have e0 := cell_regrown d0; have e1 := cell_regrown d1; have e2 := cell_regrown d2; have e3 := cell_regrown d3; have e4 := cell_regrown d4; have e5 := cell_regrown d5; have e6 := cell_regrown d6
                      have CP := Lib.hid (fun (d : Nat) (os : Array Obj) => Calls.regrown_of (HPL.out _ (below_regrown wr d os)))
                      have CB := Lib.hid (fun (d : Nat) (os : Array Obj) => Calls.regrown_of (HBL.out _ (below_regrown wr d os)))
                      clear m0 m1 d0 d1 d2 d3 d4 d5 d6
                      refine wp_region_quiet_below (by kernel_rfl) (by kernel_rfl) ?_
                      repeat (first | go_big_quiet_step ((first | exact CP.out _ _ | exact CB.out _ _)) | quiet_step ((first | exact CP.out _ _ | exact CB.out _ _)))
                      refine wpQuiet_nil ?_
                      intro _ hw'
                      obtain ⟨⟨dq, osq⟩, hw''⟩ := hw'
                      subst hw''
                      go_wp2
                      go_meet
                      case rel => exact ⟨by rw [HE1.out, HE2.out]; rfl, below_regrown wr dq osq⟩
                case rest =>
                  obtain ⟨rfl, hb11⟩ := hcut
                  have HB11 := Lib.hid (HB.out.trans (hb11.mono hsz))
                  have HM11 := Lib.hid (HM.out.below hb11 hmlt)
                  clear hb11
                  cases hpl : plainB m m.nodes[k]
                  · have E := Lib.hid (rightM_no (m := m) (fun h => by have := (plainB_is hpl).1 (h.2 _ (mem_of_getElem' hlt)).1; cases this))
                    clear hpl
                    go_wp2
                    go_ret
                    exact ⟨by rw [E.out]; rfl, HB11.out⟩
                  · cases hbl : belB m m.nodes[k]
                    · have E := Lib.hid (rightM_no (m := m) (fun h => by have := (belB_is hbl).1 (h.2 _ (mem_of_getElem' hlt)).2; cases this))
                      clear hpl hbl
                      go_wp2
                      go_ret
                      exact ⟨by rw [E.out]; rfl, HB11.out⟩
                    · have HN := Lib.hid (HA.out.next (fun _ => ⟨(plainB_is hpl).2 rfl, (belB_is hbl).2 rfl⟩))
                      clear hpl hbl
                      go_wp2
                      go_roundg (m.nodes.length - (k + 1))
                      case measure => omega
                      case rel => exact ⟨k + 1, by go_num, rfl, by omega, HB11.out, HM11.out, HN.out⟩
              · have hlt' : decide ((k : Int) < m.nodes.length) = false := decide_eq_false (by omega)
                have E := Lib.hid (rightM_yes (m := m) ⟨HI.out, fun x hx => by obtain ⟨i, hi, rfl⟩ := List.getElem_of_mem hx; exact HA.out i hi (by omega)⟩)
                clear hb
                go_wp2
                go_ret
                exact ⟨by rw [E.out]; rfl, HB.out⟩
end Go.Proofs.YtpkapommekkbcaaDoor
