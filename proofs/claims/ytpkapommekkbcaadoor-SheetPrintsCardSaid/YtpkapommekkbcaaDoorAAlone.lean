import Derived.Test.YtpkapommekkbcaaDoorARight
import Derived.Test.YtpkapommekkbcaaDoorAWordOwn
set_option linter.unusedSimpArgs false
set_option linter.unusedVariables false
namespace Go.Proofs.YtpkapommekkbcaaDoor
open Go Go.RowKit

theorem aword_is {s : ByteArray} {b : Bool} (hs : s.size ≤ 9223372036854775807) (h : wordA s = b) (w : World) : Calls Tryd.prog 46 #[.string s] w fun e w' => e = .returned (.bool b) ∧ Below w.heap.size w w' := by
  have := aWord_any s hs w
  rw [h] at this; exact this
theorem cell_alloc {w : World} {a : Addr} {v : Value} (h : w.cell? a = some v) (o : Obj) : (w.alloc o).cell? a = some v := by
  rw [((Below.refl w.heap.size w).alloc (Nat.le_refl _) o).cell (block_lt_of_cell h)]; exact h
theorem cell_new (w : World) (cs : Array Value) (t : TypeId) (i : Nat) : (w.alloc (.cells cs t)).cell? ⟨w.heap.size, i, none⟩ = cs[i]? := (Blk.new w t cs).cell i
theorem below_of_alloc {w w' : World} {o : Obj} (h : Below (w.alloc o).heap.size (w.alloc o) w') : Below w.heap.size w w' := ((Below.refl _ _).alloc (Nat.le_refl _) _).trans (h.mono (by simp))
open Classical in
noncomputable def aloneB (m : AModel) (n : ANode) : Bool := decide (Alone m n)
open Classical in
theorem aloneB_no {m : AModel} {n : ANode} (h : ¬ Alone m n) : aloneB m n = false := decide_eq_false h
open Classical in
theorem aloneB_yes {m : AModel} {n : ANode} (h : Alone m n) : aloneB m n = true := decide_eq_true h
open Classical in
theorem aloneB_is {m : AModel} {n : ANode} {b : Bool} (h : aloneB m n = b) : Alone m n ↔ b = true := by rw [← h]; exact (decide_eq_true_iff).symm
/-- what is asked of a node ahead of its lists -/
def HeadA (m : AModel) (n : ANode) : Prop := wordA n.concept = true ∧ (n.parent = 0 ↔ n.role.size = 0) ∧ (n.role.size ≠ 0 → wordA n.role = true) ∧ n.kids.length ≤ m.nodes.length
open Classical in
noncomputable def headA (m : AModel) (n : ANode) : Bool := decide (HeadA m n)
open Classical in
theorem headA_no {m : AModel} {n : ANode} (h : ¬ HeadA m n) : headA m n = false := decide_eq_false h
open Classical in
theorem headA_yes {m : AModel} {n : ANode} (h : HeadA m n) : headA m n = true := decide_eq_true h
open Classical in
theorem headA_is {m : AModel} {n : ANode} {b : Bool} (h : headA m n = b) : HeadA m n ↔ b = true := by rw [← h]; exact (decide_eq_true_iff).symm
theorem Alone.head {m : AModel} {n : ANode} (h : Alone m n) : HeadA m n := ⟨h.1, h.2.1, h.2.2.1, h.2.2.2.1⟩
theorem empty_size {s : ByteArray} (h : s.toList.isEmpty = true) : s.size = 0 := by
  rw [ByteArray.toList_eq, List.isEmpty_iff] at h
  have : s.data.toList.length = 0 := by rw [h]; rfl
  exact this
theorem nonempty_size {s : ByteArray} (h : s.toList.isEmpty = false) : s.size ≠ 0 := by
  intro e
  have : s.data.toList = [] := List.eq_nil_of_length_eq_zero e
  rw [ByteArray.toList_eq, this] at h; cases h

set_option maxRecDepth 100000 in
set_option maxHeartbeats 2000000 in
theorem alone_any (A : Option Addr) (c : Nat) (m : AModel) (n : ANode) (Sp Sk Sr : Option Addr) (cp ck cr : Nat) (w : World) (F : Nat → Prop) (hF : ∀ b, F b → b < w.heap.size)
    (hp : RowOf 2 EProp w F Sp n.props) (hr : RowOf 2 ERef w F Sr n.refs) (lp : n.props.length ≤ 9223372036854775807) (lr : n.refs.length ≤ 9223372036854775807)
    (zz : StrOK n) :
    Calls Tryd.prog 29 #[.agg #[.int .i64 m.next, .slice A m.nodes.length c], .agg #[.int .i64 n.id, .string n.concept, .int .i64 n.parent, .string n.role, .slice Sp n.props.length cp, .slice Sk n.kids.length ck, .slice Sr n.refs.length cr]] w
      fun e w' => e = .returned (.bool (aloneB m n)) ∧ Below w.heap.size w w' := by
  obtain ⟨zc, zr, zp, zf⟩ := zz
  go_enter Tryd.func29, Tryd.ntmps29
  go_upto_region 1 with fail
  go_cut [41] (fun s41 wx => s41 = .bool (!(headA m n)) ∧ Below w.heap.size w wx ∧ Blk wx w.heap.size 24 #[.int .i64 m.next, .slice A m.nodes.length c] ∧ Blk wx (w.heap.size + 1) 37 #[.int .i64 n.id, .string n.concept, .int .i64 n.parent, .string n.role, .slice Sp n.props.length cp, .slice Sk n.kids.length ck, .slice Sr n.refs.length cr])
  case first => as_aux_lemma =>
    cases hwc : wordA n.concept
    · have E := Lib.hid (headA_no (m := m) (n := n) (fun h => by rw [h.1] at hwc; cases hwc))
      have HWD := Lib.hid (fun w0 => aword_is zc hwc w0)
      clear hwc
      go_wp2_with fail
      refine (HWD.out _).mono ?_
      rintro _ w1 ⟨rfl, hb1⟩
      have HB1 := Lib.hid (below_of_alloc (below_of_alloc hb1))
      have HM1 := Lib.hid (show Blk w1 w.heap.size 24 #[.int .i64 m.next, .slice A m.nodes.length c] from Blk.below ((Blk.new _ _ _).alloc _) hb1 (by simp; omega))
      have HN1 := Lib.hid (show Blk w1 (w.heap.size + 1) 37 #[.int .i64 n.id, .string n.concept, .int .i64 n.parent, .string n.role, .slice Sp n.props.length cp, .slice Sk n.kids.length ck, .slice Sr n.refs.length cr] from Blk.below (Blk.new' (by simp)) hb1 (by simp))
      clear hb1
      go_wp2
      go_meet
      case rel => exact ⟨by rw [E.out]; rfl, HB1.out, HM1.out, HN1.out⟩
    · have HWD := Lib.hid (fun w0 => aword_is zc hwc w0)
      have HC := Lib.hid hwc
      clear hwc
      go_wp2_with fail
      refine (HWD.out _).mono ?_
      rintro _ w1 ⟨rfl, hb1⟩
      have HB1 := Lib.hid (below_of_alloc (below_of_alloc hb1))
      have HM1 := Lib.hid (show Blk w1 w.heap.size 24 #[.int .i64 m.next, .slice A m.nodes.length c] from Blk.below ((Blk.new _ _ _).alloc _) hb1 (by simp; omega))
      have HN1 := Lib.hid (show Blk w1 (w.heap.size + 1) 37 #[.int .i64 n.id, .string n.concept, .int .i64 n.parent, .string n.role, .slice Sp n.props.length cp, .slice Sk n.kids.length ck, .slice Sr n.refs.length cr] from Blk.below (Blk.new' (by simp)) hb1 (by simp))
      have hnb := HN1.out; have hmb := HM1.out
      have n2 := hnb.cell 2; have n3 := hnb.cell 3; have n5 := hnb.cell 5; have m1 := hmb.cell 1
      have hmlt := hmb.lt; have hnlt := hnb.lt
      simp at n2 n3 n5 m1
      clear hb1 hmb hnb
      cases hp0 : (n.parent == 0) <;> cases hr0 : n.role.toList.isEmpty
      · -- neither
        have HX := Lib.hid (show n.parent = 0 ↔ n.role.size = 0 from ⟨fun h => absurd h (beq_eq_false_iff_ne.1 hp0), fun h => absurd h (nonempty_size hr0)⟩)
        cases hwr : wordA n.role
        · have HWR := Lib.hid (fun w0 => aword_is zr hwr w0)
          have E := Lib.hid (headA_no (m := m) (n := n) (fun h => by rw [h.2.2.1 (nonempty_size hr0)] at hwr; cases hwr))
          clear hwr
          go_wp2_with fail
          refine (HWR.out _).mono ?_
          rintro _ w2 ⟨rfl, hb2⟩
          have HB2 := Lib.hid (HB1.out.trans (hb2.mono HB1.out.size))
          have HM2 := Lib.hid (HM1.out.below hb2 hmlt); have HN2 := Lib.hid (HN1.out.below hb2 hnlt)
          clear hb2
          go_wp2
          go_meet
          case rel => exact ⟨by rw [E.out]; rfl, HB2.out, HM2.out, HN2.out⟩
        · have HWR := Lib.hid (fun w0 => aword_is zr hwr w0)
          have HY := Lib.hid (show n.role.size ≠ 0 → wordA n.role = true from fun _ => hwr)
          clear hwr
          go_wp2_with fail
          refine (HWR.out _).mono ?_
          rintro _ w2 ⟨rfl, hb2⟩
          have HB2 := Lib.hid (HB1.out.trans (hb2.mono HB1.out.size))
          have HM2 := Lib.hid (HM1.out.below hb2 hmlt); have HN2 := Lib.hid (HN1.out.below hb2 hnlt)
          have n5 := HN2.out.cell 5; have m1 := HM2.out.cell 1
          simp at n5 m1
          clear hb2
          by_cases hk : n.kids.length ≤ m.nodes.length
          · have hk' : decide ((m.nodes.length : Int) < n.kids.length) = false := decide_eq_false (by omega)
            have hk'' : decide (m.nodes.length < n.kids.length) = false := decide_eq_false (by omega)
            have E := Lib.hid (headA_yes (m := m) (n := n) ⟨HC.out, HX.out, HY.out, hk⟩)
            clear hk
            go_wp2
            go_meet
            case rel => exact ⟨by rw [E.out]; rfl, HB2.out, HM2.out, HN2.out⟩
          · have hk' : (m.nodes.length : Int) < n.kids.length := by omega
            have hk'' : m.nodes.length < n.kids.length := by omega
            have E := Lib.hid (headA_no (m := m) (n := n) (fun h => hk h.2.2.2))
            clear hk
            go_wp2
            go_meet
            case rel => exact ⟨by rw [E.out]; rfl, HB2.out, HM2.out, HN2.out⟩
      · -- a parent, no role
        have E := Lib.hid (headA_no (m := m) (n := n) (fun h => by have := h.2.1.2 (empty_size hr0); exact absurd this (beq_eq_false_iff_ne.1 hp0)))
        have hr1 : (!n.role.toList.isEmpty) = false := by rw [hr0]; rfl
        go_wp2
        go_meet
        case rel => exact ⟨by rw [E.out]; rfl, HB1.out, HM1.out, HN1.out⟩
      · -- no parent, a role
        have E := Lib.hid (headA_no (m := m) (n := n) (fun h => by have := h.2.1.1 (beq_iff_eq.1 hp0); exact absurd this (nonempty_size hr0)))
        have hr1 : (!n.role.toList.isEmpty) = true := by rw [hr0]; rfl
        go_wp2
        go_meet
        case rel => exact ⟨by rw [E.out]; rfl, HB1.out, HM1.out, HN1.out⟩
      · -- a root
        have HX := Lib.hid (show n.parent = 0 ↔ n.role.size = 0 from ⟨fun _ => empty_size hr0, fun _ => beq_iff_eq.1 hp0⟩)
        have HY := Lib.hid (show n.role.size ≠ 0 → wordA n.role = true from fun h => absurd (empty_size hr0) h)
        have hr1 : (!n.role.toList.isEmpty) = false := by rw [hr0]; rfl
        by_cases hk : n.kids.length ≤ m.nodes.length
        · have hk' : decide ((m.nodes.length : Int) < n.kids.length) = false := decide_eq_false (by omega)
          have hk'' : decide (m.nodes.length < n.kids.length) = false := decide_eq_false (by omega)
          have E := Lib.hid (headA_yes (m := m) (n := n) ⟨HC.out, HX.out, HY.out, hk⟩)
          clear hk
          go_wp2
          go_meet
          case rel => exact ⟨by rw [E.out]; rfl, HB1.out, HM1.out, HN1.out⟩
        · have hk' : (m.nodes.length : Int) < n.kids.length := by omega
          have hk'' : m.nodes.length < n.kids.length := by omega
          have E := Lib.hid (headA_no (m := m) (n := n) (fun h => hk h.2.2.2))
          clear hk
          go_wp2
          go_meet
          case rel => exact ⟨by rw [E.out]; rfl, HB1.out, HM1.out, HN1.out⟩
  case rest => as_aux_lemma =>
    obtain ⟨rfl, hb, hmb, hnb⟩ := hcut
    have HB := Lib.hid hb; have HM := Lib.hid hmb; have HN := Lib.hid hnb
    have n4 := hnb.cell 4
    have hnlt := hnb.lt
    simp at n4
    clear hb hmb hnb
    cases hh : headA m n
    · have E := Lib.hid (aloneB_no (m := m) (n := n) (fun h => by have := (headA_is hh).1 h.head; cases this))
      clear hh
      go_wp2
      go_ret
      exact ⟨by rw [E.out]; rfl, HB.out⟩
    · have HH := Lib.hid ((headA_is hh).2 rfl)
      clear hh
      go_wp2_with fail
      go_loopg [45] n.props.length (fun g s5 wx => ∃ k : Nat, s5 = .int .i64 k ∧ g = n.props.length - k ∧ k ≤ n.props.length ∧ Below w.heap.size w wx ∧ Blk wx w.heap.size 24 #[.int .i64 m.next, .slice A m.nodes.length c] ∧ Blk wx (w.heap.size + 1) 37 #[.int .i64 n.id, .string n.concept, .int .i64 n.parent, .string n.role, .slice Sp n.props.length cp, .slice Sk n.kids.length ck, .slice Sr n.refs.length cr] ∧ PropsTo n.props k)
      case atStart => exact ⟨0, rfl, rfl, Nat.zero_le _, HB.out, HM.out, HN.out, fun j hj => absurd hj (Nat.not_lt_zero _)⟩
      case round =>
        clear HB HM HN
        obtain ⟨k, rfl, rfl, hkk, hb, hmb, hnb, hall⟩ := hrel
        have HB := Lib.hid hb; have HM := Lib.hid hmb; have HN := Lib.hid hnb; have HA := Lib.hid hall
        have m0 := hmb.cell 0
        have n4 := hnb.cell 4
        have hmlt := hmb.lt; have hnlt := hnb.lt
        simp at m0 n4
        clear hmb hnb hall
        by_cases hlt : k < n.props.length
        · have hlt' : (k : Int) < n.props.length := by omega
          have k0 : (0 : Int) ≤ k := by omega
          have hR := RowOf.keep EProp.stays (Keep.below hb hF) (F' := F) (fun _ h => h) hp
          obtain ⟨b, off, rfl, hbF, d0, d1⟩ := prop_at hR hlt
          have hzz := (zp n.props[k] (List.getElem_mem hlt)).1
          have HR := Lib.hid hR
          have hblt : b < wr.heap.size := Nat.lt_of_lt_of_le (hF b hbF) hb.size
          clear hR hb
          cases hw : wordA n.props[k].name
          · have HWD := Lib.hid (fun w0 => aword_is hzz hw w0)
            have E := Lib.hid (aloneB_no (m := m) (n := n) (fun h => by have := (h.2.2.2.2.1 k hlt).1; rw [hw] at this; cases this))
            clear hw
            go_wp2_with fail
            have p0 := cell_regrown (show _ = some (.string n.props[k].name) from cell_new wr #[.string n.props[k].name, .string n.props[k].value] 57 0)
            have p1 := cell_regrown (show _ = some (.string n.props[k].value) from cell_new wr #[.string n.props[k].name, .string n.props[k].value] 57 1)
            have j0 := cell_regrown (cell_alloc m0 (.cells #[.string n.props[k].name, .string n.props[k].value] 57))
            have j4 := cell_regrown (cell_alloc n4 (.cells #[.string n.props[k].name, .string n.props[k].value] 57))
            have CW := Lib.hid (fun (w0 : World) (d : Nat) (os : Array Obj) => Calls.regrown_of (w := w0) (d := d) (os := os) (HWD.out _))
            clear m0 n4 d0 d1
            refine wp_region_quiet_below (by kernel_rfl) (by kernel_rfl) ?_
            repeat (first | go_big_quiet_step (exact CW.out _ _ _) | quiet_step (exact CW.out _ _ _))
            refine wpQuiet_nil ?_
            intro _ hw'
            obtain ⟨⟨dq, osq⟩, hw''⟩ := hw'
            subst hw''
            go_wp2
            go_ret
            exact ⟨by rw [E.out]; rfl, HB.out.trans ((below_of_alloc (below_regrown _ dq osq)).mono HB.out.size)⟩
          · have HWD := Lib.hid (fun w0 => aword_is hzz hw w0)
            have HW := Lib.hid hw
            clear hw
            by_cases hv : n.props[k].value.size ≤ 4096
            · have hv' : decide ((4096 : Int) < n.props[k].value.size) = false := decide_eq_false (by omega)
              by_cases hk0 : k = 0
              · subst hk0
                have g0 : decide ((0 : Int) < ((0 : Nat) : Int)) = false := by decide
                simp only [Nat.zero_mul, Nat.add_zero] at d0 d1
                have g2 : (0 : Int) < n.props.length := by omega
                have HP := Lib.hid (show PropAt n.props _ from fun _ => ⟨HW.out, hv, fun h => absurd h (by omega)⟩)
                go_wp2_with fail
                have p0 := cell_regrown (show _ = some (.string n.props[0].name) from cell_new wr #[.string n.props[0].name, .string n.props[0].value] 57 0)
                have p1 := cell_regrown (show _ = some (.string n.props[0].value) from cell_new wr #[.string n.props[0].name, .string n.props[0].value] 57 1)
                have j0 := cell_regrown (cell_alloc m0 (.cells #[.string n.props[0].name, .string n.props[0].value] 57))
                have j4 := cell_regrown (cell_alloc n4 (.cells #[.string n.props[0].name, .string n.props[0].value] 57))
                have CW := Lib.hid (fun (w0 : World) (d : Nat) (os : Array Obj) => Calls.regrown_of (w := w0) (d := d) (os := os) (HWD.out _))
                clear m0 n4 d0 d1
                refine wp_region_quiet_below (by kernel_rfl) (by kernel_rfl) ?_
                repeat (first | go_big_quiet_step (exact CW.out _ _ _) | quiet_step (exact CW.out _ _ _))
                refine wpQuiet_nil ?_
                intro _ hw'
                obtain ⟨⟨dq, osq⟩, hw''⟩ := hw'
                subst hw''
                go_wp2
                go_roundg (n.props.length - (0 + 1))
                case measure => omega
                case rel => exact ⟨0 + 1, by go_num, rfl, by omega, HB.out.trans ((below_of_alloc (below_regrown _ dq osq)).mono HB.out.size), HM.out.below (below_of_alloc (below_regrown _ dq osq)) hmlt, HN.out.below (below_of_alloc (below_regrown _ dq osq)) hnlt, HA.out.next HP.out⟩
              · obtain ⟨i, rfl⟩ : ∃ i, k = i + 1 := ⟨k - 1, by omega⟩
                obtain ⟨b', off', e', _, d2, _⟩ := prop_at HR.out (show i < n.props.length by omega)
                injection e' with e'
                injection e' with e1 e2
                subst e1; subst e2
                have q1 : IntKind.i64.wrap (((i + 1 : Nat) : Int) - 1) = i := by rw [IntWalk.i64_in _ ⟨by omega, by omega⟩]; omega
                have q2 : (i : Int) < n.props.length := by omega
                have q3 : (0 : Int) ≤ i := by omega
                have q4 : (0 : Int) < ((i + 1 : Nat) : Int) := by omega
                have q7 : (i : Int) + 1 < n.props.length := by omega
                have q8 : (0 : Int) ≤ (i : Int) + 1 := by omega
                have q9 : ((i : Int) + 1).toNat = i + 1 := by omega
                have q5 : (0 : Int) < (i : Int) + 1 := by omega
                have q6 : IntKind.i64.wrap ((i : Int) + 1 - 1) = i := by rw [IntWalk.i64_in _ ⟨by omega, by omega⟩]; omega
                cases hg : Op.bytesLess n.props[i].name.toList n.props[i + 1].name.toList
                · have E := Lib.hid (aloneB_no (m := m) (n := n) (fun h => by have := (h.2.2.2.2.1 (i + 1) hlt).2.2 (by omega); simp [geS, hg] at this))
                  go_wp2_with fail
                  have p0 := cell_regrown (show _ = some (.string n.props[i + 1].name) from cell_new wr #[.string n.props[i + 1].name, .string n.props[i + 1].value] 57 0)
                  have p1 := cell_regrown (show _ = some (.string n.props[i + 1].value) from cell_new wr #[.string n.props[i + 1].name, .string n.props[i + 1].value] 57 1)
                  have j0 := cell_regrown (cell_alloc m0 (.cells #[.string n.props[i + 1].name, .string n.props[i + 1].value] 57))
                  have j4 := cell_regrown (cell_alloc n4 (.cells #[.string n.props[i + 1].name, .string n.props[i + 1].value] 57))
                  have j2 := cell_regrown (cell_alloc d2 (.cells #[.string n.props[i + 1].name, .string n.props[i + 1].value] 57))
                  have CW := Lib.hid (fun (w0 : World) (d : Nat) (os : Array Obj) => Calls.regrown_of (w := w0) (d := d) (os := os) (HWD.out _))
                  clear m0 n4 d0 d1 d2
                  refine wp_region_quiet_below (by kernel_rfl) (by kernel_rfl) ?_
                  repeat (first | go_big_quiet_step (exact CW.out _ _ _) | quiet_step (exact CW.out _ _ _))
                  refine wpQuiet_nil ?_
                  intro _ hw'
                  obtain ⟨⟨dq, osq⟩, hw''⟩ := hw'
                  subst hw''
                  go_wp2
                  go_ret
                  exact ⟨by rw [E.out]; rfl, HB.out.trans ((below_of_alloc (below_regrown _ dq osq)).mono HB.out.size)⟩
                · have HP := Lib.hid (show PropAt n.props _ from fun _ => ⟨HW.out, hv, fun _ => by simp [geS, hg]⟩)
                  go_wp2_with fail
                  have p0 := cell_regrown (show _ = some (.string n.props[i + 1].name) from cell_new wr #[.string n.props[i + 1].name, .string n.props[i + 1].value] 57 0)
                  have p1 := cell_regrown (show _ = some (.string n.props[i + 1].value) from cell_new wr #[.string n.props[i + 1].name, .string n.props[i + 1].value] 57 1)
                  have j0 := cell_regrown (cell_alloc m0 (.cells #[.string n.props[i + 1].name, .string n.props[i + 1].value] 57))
                  have j4 := cell_regrown (cell_alloc n4 (.cells #[.string n.props[i + 1].name, .string n.props[i + 1].value] 57))
                  have j2 := cell_regrown (cell_alloc d2 (.cells #[.string n.props[i + 1].name, .string n.props[i + 1].value] 57))
                  have CW := Lib.hid (fun (w0 : World) (d : Nat) (os : Array Obj) => Calls.regrown_of (w := w0) (d := d) (os := os) (HWD.out _))
                  clear m0 n4 d0 d1 d2
                  refine wp_region_quiet_below (by kernel_rfl) (by kernel_rfl) ?_
                  repeat (first | go_big_quiet_step (exact CW.out _ _ _) | quiet_step (exact CW.out _ _ _))
                  refine wpQuiet_nil ?_
                  intro _ hw'
                  obtain ⟨⟨dq, osq⟩, hw''⟩ := hw'
                  subst hw''
                  go_wp2
                  go_roundg (n.props.length - (i + 1 + 1))
                  case measure => omega
                  case rel => exact ⟨i + 1 + 1, by go_num, rfl, by omega, HB.out.trans ((below_of_alloc (below_regrown _ dq osq)).mono HB.out.size), HM.out.below (below_of_alloc (below_regrown _ dq osq)) hmlt, HN.out.below (below_of_alloc (below_regrown _ dq osq)) hnlt, HA.out.next HP.out⟩
            · have hv' : (4096 : Int) < n.props[k].value.size := by omega
              have E := Lib.hid (aloneB_no (m := m) (n := n) (fun h => hv (h.2.2.2.2.1 k hlt).2.1))
              go_wp2_with fail
              have p0 := cell_regrown (show _ = some (.string n.props[k].name) from cell_new wr #[.string n.props[k].name, .string n.props[k].value] 57 0)
              have p1 := cell_regrown (show _ = some (.string n.props[k].value) from cell_new wr #[.string n.props[k].name, .string n.props[k].value] 57 1)
              have j0 := cell_regrown (cell_alloc m0 (.cells #[.string n.props[k].name, .string n.props[k].value] 57))
              have j4 := cell_regrown (cell_alloc n4 (.cells #[.string n.props[k].name, .string n.props[k].value] 57))
              have CW := Lib.hid (fun (w0 : World) (d : Nat) (os : Array Obj) => Calls.regrown_of (w := w0) (d := d) (os := os) (HWD.out _))
              clear m0 n4 d0 d1
              refine wp_region_quiet_below (by kernel_rfl) (by kernel_rfl) ?_
              repeat (first | go_big_quiet_step (exact CW.out _ _ _) | quiet_step (exact CW.out _ _ _))
              refine wpQuiet_nil ?_
              intro _ hw'
              obtain ⟨⟨dq, osq⟩, hw''⟩ := hw'
              subst hw''
              go_wp2
              go_ret
              exact ⟨by rw [E.out]; rfl, HB.out.trans ((below_of_alloc (below_regrown _ dq osq)).mono HB.out.size)⟩
        · have hlt' : decide ((k : Int) < n.props.length) = false := decide_eq_false (by omega)
          have HALL := Lib.hid (PropsTo.all HA.out hlt)
          clear hb m0 n4
          have HPROPS := Lib.hid HALL.out
          have n4 := HN.out.cell 6
          simp at n4
          obtain ⟨wp, rfl⟩ : ∃ wp : World, wp = wr := ⟨_, rfl⟩
          go_wp2_with fail
          clear HALL HA hmlt hnlt hkk hlt hlt'
          go_loopg [80] n.refs.length (fun g s5 wx => ∃ k : Nat, s5 = .int .i64 k ∧ g = n.refs.length - k ∧ k ≤ n.refs.length ∧ Below w.heap.size w wx ∧ Blk wx w.heap.size 24 #[.int .i64 m.next, .slice A m.nodes.length c] ∧ Blk wx (w.heap.size + 1) 37 #[.int .i64 n.id, .string n.concept, .int .i64 n.parent, .string n.role, .slice Sp n.props.length cp, .slice Sk n.kids.length ck, .slice Sr n.refs.length cr] ∧ RefsTo m.next n.refs k)
          case atStart => exact ⟨0, rfl, rfl, Nat.zero_le _, HB.out, HM.out, HN.out, fun j hj => absurd hj (Nat.not_lt_zero _)⟩
          case round =>
            clear HB HM HN
            obtain ⟨k, rfl, rfl, hkk, hb, hmb, hnb, hall⟩ := hrel
            have HB := Lib.hid hb; have HM := Lib.hid hmb; have HN := Lib.hid hnb; have HA := Lib.hid hall
            have m0 := hmb.cell 0
            have n4 := hnb.cell 6
            have hmlt := hmb.lt; have hnlt := hnb.lt
            simp at m0 n4
            clear hmb hnb hall
            by_cases hlt : k < n.refs.length
            · have hlt' : (k : Int) < n.refs.length := by omega
              have k0 : (0 : Int) ≤ k := by omega
              have hR := RowOf.keep ERef.stays (Keep.below hb hF) (F' := F) (fun _ h => h) hr
              obtain ⟨b, off, rfl, hbF, d0, d1⟩ := ref_at hR hlt
              have hzz := zf n.refs[k] (List.getElem_mem hlt)
              have HR := Lib.hid hR
              have hblt : b < wr.heap.size := Nat.lt_of_lt_of_le (hF b hbF) hb.size
              clear hR hb
              cases hw : wordA n.refs[k].role
              · have HWD := Lib.hid (fun w0 => aword_is hzz hw w0)
                have E := Lib.hid (aloneB_no (m := m) (n := n) (fun h => by have := (h.2.2.2.2.2 k hlt).1; rw [hw] at this; cases this))
                clear hw
                go_wp2_with fail
                have p0 := cell_regrown (show _ = some (.string n.refs[k].role) from cell_new wr #[.string n.refs[k].role, .int .i64 n.refs[k].target] 60 0)
                have p1 := cell_regrown (show _ = some (.int .i64 n.refs[k].target) from cell_new wr #[.string n.refs[k].role, .int .i64 n.refs[k].target] 60 1)
                have j0 := cell_regrown (cell_alloc m0 (.cells #[.string n.refs[k].role, .int .i64 n.refs[k].target] 60))
                have j4 := cell_regrown (cell_alloc n4 (.cells #[.string n.refs[k].role, .int .i64 n.refs[k].target] 60))
                have CW := Lib.hid (fun (w0 : World) (d : Nat) (os : Array Obj) => Calls.regrown_of (w := w0) (d := d) (os := os) (HWD.out _))
                clear m0 n4 d0 d1
                refine wp_region_quiet_below (by kernel_rfl) (by kernel_rfl) ?_
                repeat (first | go_big_quiet_step (exact CW.out _ _ _) | quiet_step (exact CW.out _ _ _))
                refine wpQuiet_nil ?_
                intro _ hw'
                obtain ⟨⟨dq, osq⟩, hw''⟩ := hw'
                subst hw''
                go_wp2
                go_ret
                exact ⟨by rw [E.out]; rfl, HB.out.trans ((below_of_alloc (below_regrown _ dq osq)).mono HB.out.size)⟩
              · have HWD := Lib.hid (fun w0 => aword_is hzz hw w0)
                have HW := Lib.hid hw
                clear hw
                by_cases hv : 1 ≤ n.refs[k].target
                · have hv' : decide (n.refs[k].target < 1) = false := decide_eq_false (by omega)
                  by_cases hu : n.refs[k].target < m.next
                  · have hu' : decide (m.next ≤ n.refs[k].target) = false := decide_eq_false (by omega)
                    by_cases hk0 : k = 0
                    · subst hk0
                      have g0 : decide ((0 : Int) < ((0 : Nat) : Int)) = false := by decide
                      simp only [Nat.zero_mul, Nat.add_zero] at d0 d1
                      have g2 : (0 : Int) < n.refs.length := by omega
                      have HP := Lib.hid (show RefAt m.next n.refs _ from fun _ => ⟨HW.out, hv, hu, fun h => absurd h (by omega)⟩)
                      go_wp2_with fail
                      have p0 := cell_regrown (show _ = some (.string n.refs[0].role) from cell_new wr #[.string n.refs[0].role, .int .i64 n.refs[0].target] 60 0)
                      have p1 := cell_regrown (show _ = some (.int .i64 n.refs[0].target) from cell_new wr #[.string n.refs[0].role, .int .i64 n.refs[0].target] 60 1)
                      have j0 := cell_regrown (cell_alloc m0 (.cells #[.string n.refs[0].role, .int .i64 n.refs[0].target] 60))
                      have j4 := cell_regrown (cell_alloc n4 (.cells #[.string n.refs[0].role, .int .i64 n.refs[0].target] 60))
                      have CW := Lib.hid (fun (w0 : World) (d : Nat) (os : Array Obj) => Calls.regrown_of (w := w0) (d := d) (os := os) (HWD.out _))
                      clear m0 n4 d0 d1
                      refine wp_region_quiet_below (by kernel_rfl) (by kernel_rfl) ?_
                      repeat (first | go_big_quiet_step (exact CW.out _ _ _) | quiet_step (exact CW.out _ _ _))
                      refine wpQuiet_nil ?_
                      intro _ hw'
                      obtain ⟨⟨dq, osq⟩, hw''⟩ := hw'
                      subst hw''
                      go_wp2
                      go_roundg (n.refs.length - (0 + 1))
                      case measure => omega
                      case rel => exact ⟨0 + 1, by go_num, rfl, by omega, HB.out.trans ((below_of_alloc (below_regrown _ dq osq)).mono HB.out.size), HM.out.below (below_of_alloc (below_regrown _ dq osq)) hmlt, HN.out.below (below_of_alloc (below_regrown _ dq osq)) hnlt, HA.out.next HP.out⟩
                    · obtain ⟨i, rfl⟩ : ∃ i, k = i + 1 := ⟨k - 1, by omega⟩
                      obtain ⟨b', off', e', _, d2, _⟩ := ref_at HR.out (show i < n.refs.length by omega)
                      injection e' with e'
                      injection e' with e1 e2
                      subst e1; subst e2
                      have q1 : IntKind.i64.wrap (((i + 1 : Nat) : Int) - 1) = i := by rw [IntWalk.i64_in _ ⟨by omega, by omega⟩]; omega
                      have q2 : (i : Int) < n.refs.length := by omega
                      have q3 : (0 : Int) ≤ i := by omega
                      have q4 : (0 : Int) < ((i + 1 : Nat) : Int) := by omega
                      have q7 : (i : Int) + 1 < n.refs.length := by omega
                      have q8 : (0 : Int) ≤ (i : Int) + 1 := by omega
                      have q9 : ((i : Int) + 1).toNat = i + 1 := by omega
                      have q5 : (0 : Int) < (i : Int) + 1 := by omega
                      have q6 : IntKind.i64.wrap ((i : Int) + 1 - 1) = i := by rw [IntWalk.i64_in _ ⟨by omega, by omega⟩]; omega
                      cases hg : Op.bytesLess n.refs[i].role.toList n.refs[i + 1].role.toList
                      · have E := Lib.hid (aloneB_no (m := m) (n := n) (fun h => by have := (h.2.2.2.2.2 (i + 1) hlt).2.2.2 (by omega); simp [geS, hg] at this))
                        go_wp2_with fail
                        have p0 := cell_regrown (show _ = some (.string n.refs[i + 1].role) from cell_new wr #[.string n.refs[i + 1].role, .int .i64 n.refs[i + 1].target] 60 0)
                        have p1 := cell_regrown (show _ = some (.int .i64 n.refs[i + 1].target) from cell_new wr #[.string n.refs[i + 1].role, .int .i64 n.refs[i + 1].target] 60 1)
                        have j0 := cell_regrown (cell_alloc m0 (.cells #[.string n.refs[i + 1].role, .int .i64 n.refs[i + 1].target] 60))
                        have j4 := cell_regrown (cell_alloc n4 (.cells #[.string n.refs[i + 1].role, .int .i64 n.refs[i + 1].target] 60))
                        have j2 := cell_regrown (cell_alloc d2 (.cells #[.string n.refs[i + 1].role, .int .i64 n.refs[i + 1].target] 60))
                        have CW := Lib.hid (fun (w0 : World) (d : Nat) (os : Array Obj) => Calls.regrown_of (w := w0) (d := d) (os := os) (HWD.out _))
                        clear m0 n4 d0 d1 d2
                        refine wp_region_quiet_below (by kernel_rfl) (by kernel_rfl) ?_
                        repeat (first | go_big_quiet_step (exact CW.out _ _ _) | quiet_step (exact CW.out _ _ _))
                        refine wpQuiet_nil ?_
                        intro _ hw'
                        obtain ⟨⟨dq, osq⟩, hw''⟩ := hw'
                        subst hw''
                        go_wp2
                        go_ret
                        exact ⟨by rw [E.out]; rfl, HB.out.trans ((below_of_alloc (below_regrown _ dq osq)).mono HB.out.size)⟩
                      · have HP := Lib.hid (show RefAt m.next n.refs _ from fun _ => ⟨HW.out, hv, hu, fun _ => by simp [geS, hg]⟩)
                        go_wp2_with fail
                        have p0 := cell_regrown (show _ = some (.string n.refs[i + 1].role) from cell_new wr #[.string n.refs[i + 1].role, .int .i64 n.refs[i + 1].target] 60 0)
                        have p1 := cell_regrown (show _ = some (.int .i64 n.refs[i + 1].target) from cell_new wr #[.string n.refs[i + 1].role, .int .i64 n.refs[i + 1].target] 60 1)
                        have j0 := cell_regrown (cell_alloc m0 (.cells #[.string n.refs[i + 1].role, .int .i64 n.refs[i + 1].target] 60))
                        have j4 := cell_regrown (cell_alloc n4 (.cells #[.string n.refs[i + 1].role, .int .i64 n.refs[i + 1].target] 60))
                        have j2 := cell_regrown (cell_alloc d2 (.cells #[.string n.refs[i + 1].role, .int .i64 n.refs[i + 1].target] 60))
                        have CW := Lib.hid (fun (w0 : World) (d : Nat) (os : Array Obj) => Calls.regrown_of (w := w0) (d := d) (os := os) (HWD.out _))
                        clear m0 n4 d0 d1 d2
                        refine wp_region_quiet_below (by kernel_rfl) (by kernel_rfl) ?_
                        repeat (first | go_big_quiet_step (exact CW.out _ _ _) | quiet_step (exact CW.out _ _ _))
                        refine wpQuiet_nil ?_
                        intro _ hw'
                        obtain ⟨⟨dq, osq⟩, hw''⟩ := hw'
                        subst hw''
                        go_wp2
                        go_roundg (n.refs.length - (i + 1 + 1))
                        case measure => omega
                        case rel => exact ⟨i + 1 + 1, by go_num, rfl, by omega, HB.out.trans ((below_of_alloc (below_regrown _ dq osq)).mono HB.out.size), HM.out.below (below_of_alloc (below_regrown _ dq osq)) hmlt, HN.out.below (below_of_alloc (below_regrown _ dq osq)) hnlt, HA.out.next HP.out⟩
                  · have hu' : m.next ≤ n.refs[k].target := by omega
                    have E := Lib.hid (aloneB_no (m := m) (n := n) (fun h => hu (h.2.2.2.2.2 k hlt).2.2.1))
                    go_wp2_with fail
                    have p0 := cell_regrown (show _ = some (.string n.refs[k].role) from cell_new wr #[.string n.refs[k].role, .int .i64 n.refs[k].target] 60 0)
                    have p1 := cell_regrown (show _ = some (.int .i64 n.refs[k].target) from cell_new wr #[.string n.refs[k].role, .int .i64 n.refs[k].target] 60 1)
                    have j0 := cell_regrown (cell_alloc m0 (.cells #[.string n.refs[k].role, .int .i64 n.refs[k].target] 60))
                    have j4 := cell_regrown (cell_alloc n4 (.cells #[.string n.refs[k].role, .int .i64 n.refs[k].target] 60))
                    have CW := Lib.hid (fun (w0 : World) (d : Nat) (os : Array Obj) => Calls.regrown_of (w := w0) (d := d) (os := os) (HWD.out _))
                    clear m0 n4 d0 d1
                    refine wp_region_quiet_below (by kernel_rfl) (by kernel_rfl) ?_
                    repeat (first | go_big_quiet_step (exact CW.out _ _ _) | quiet_step (exact CW.out _ _ _))
                    refine wpQuiet_nil ?_
                    intro _ hw'
                    obtain ⟨⟨dq, osq⟩, hw''⟩ := hw'
                    subst hw''
                    go_wp2
                    go_ret
                    exact ⟨by rw [E.out]; rfl, HB.out.trans ((below_of_alloc (below_regrown _ dq osq)).mono HB.out.size)⟩
                · have hv' : n.refs[k].target < 1 := by omega
                  have E := Lib.hid (aloneB_no (m := m) (n := n) (fun h => hv (h.2.2.2.2.2 k hlt).2.1))
                  go_wp2_with fail
                  have p0 := cell_regrown (show _ = some (.string n.refs[k].role) from cell_new wr #[.string n.refs[k].role, .int .i64 n.refs[k].target] 60 0)
                  have p1 := cell_regrown (show _ = some (.int .i64 n.refs[k].target) from cell_new wr #[.string n.refs[k].role, .int .i64 n.refs[k].target] 60 1)
                  have j0 := cell_regrown (cell_alloc m0 (.cells #[.string n.refs[k].role, .int .i64 n.refs[k].target] 60))
                  have j4 := cell_regrown (cell_alloc n4 (.cells #[.string n.refs[k].role, .int .i64 n.refs[k].target] 60))
                  have CW := Lib.hid (fun (w0 : World) (d : Nat) (os : Array Obj) => Calls.regrown_of (w := w0) (d := d) (os := os) (HWD.out _))
                  clear m0 n4 d0 d1
                  refine wp_region_quiet_below (by kernel_rfl) (by kernel_rfl) ?_
                  repeat (first | go_big_quiet_step (exact CW.out _ _ _) | quiet_step (exact CW.out _ _ _))
                  refine wpQuiet_nil ?_
                  intro _ hw'
                  obtain ⟨⟨dq, osq⟩, hw''⟩ := hw'
                  subst hw''
                  go_wp2
                  go_ret
                  exact ⟨by rw [E.out]; rfl, HB.out.trans ((below_of_alloc (below_regrown _ dq osq)).mono HB.out.size)⟩
            · have hlt' : decide ((k : Int) < n.refs.length) = false := decide_eq_false (by omega)
              have HALL := Lib.hid (RefsTo.all HA.out hlt)
              clear hb m0 n4
              have HREFS := Lib.hid HALL.out
              have E := Lib.hid (aloneB_yes (m := m) (n := n) ⟨HH.out.1, HH.out.2.1, HH.out.2.2.1, HH.out.2.2.2, HPROPS.out, HREFS.out⟩)
              go_wp2
              go_ret
              exact ⟨by rw [E.out]; rfl, HB.out⟩
end Go.Proofs.YtpkapommekkbcaaDoor
