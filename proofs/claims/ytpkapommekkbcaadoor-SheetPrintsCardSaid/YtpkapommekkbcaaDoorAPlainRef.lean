import Derived.Test.YtpkapommekkbcaaDoorABelow
import Derived.StillTailTactics
import Derived.Laws.MakeOwn
set_option linter.unusedSimpArgs false
set_option linter.unusedVariables false
namespace Go.Proofs.YtpkapommekkbcaaDoor
open Go Go.RowKit

theorem bool_info : (Tryd.prog.info? 4).map (fun i => (i.zero, i.size, i.bytes)) = some (some (.bool false), 1, 1) := by kernel_rfl
open Classical in
noncomputable def plainB (m : AModel) (n : ANode) : Bool := decide (Plain m n)
open Classical in
theorem plainB_no {m : AModel} {n : ANode} (h : ¬ Plain m n) : plainB m n = false := decide_eq_false h
open Classical in
theorem plainB_yes {m : AModel} {n : ANode} (h : Plain m n) : plainB m n = true := decide_eq_true h
def PropsTo (l : List AProp) (k : Nat) : Prop := ∀ j, j < k → PropAt l j
theorem PropsTo.next {l : List AProp} {k : Nat} (h : PropsTo l k) (hk : PropAt l k) : PropsTo l (k + 1) := fun j hj => by
  rcases Nat.lt_succ_iff_lt_or_eq.1 hj with h' | h'
  · exact h j h'
  · subst h'; exact hk
theorem PropsTo.all {l : List AProp} {k : Nat} (h : PropsTo l k) (hk : ¬ k < l.length) : PropsOK l := fun i hi => h i (by omega) hi
def RefsTo (nx : Int) (l : List ARef) (k : Nat) : Prop := ∀ j, j < k → RefAt nx l j
theorem RefsTo.next {nx : Int} {l : List ARef} {k : Nat} (h : RefsTo nx l k) (hk : RefAt nx l k) : RefsTo nx l (k + 1) := fun j hj => by
  rcases Nat.lt_succ_iff_lt_or_eq.1 hj with h' | h'
  · exact h j h'
  · subst h'; exact hk
theorem RefsTo.all {nx : Int} {l : List ARef} {k : Nat} (h : RefsTo nx l k) (hk : ¬ k < l.length) : RefsOK nx l := fun i hi => h i (by omega) hi

/-- which nodes have been met -/
def MetB (w : World) (g : Nat) (l : List Bool) : Prop := Blk w g 4 (l.map Value.bool).toArray
theorem MetB.cell {w : World} {g : Nat} {l : List Bool} (h : MetB w g l) {i : Nat} (hi : i < l.length) : w.cell? ⟨g, i, none⟩ = some (.bool l[i]) := by
  rw [Blk.cell h i]; simp [hi]
theorem MetB.set_ {w : World} {g : Nat} {l : List Bool} (h : MetB w g l) (i : Nat) (b : Bool) : MetB (w.setCell ⟨g, i, none⟩ (.bool b)) g (l.set i b) := by
  have := Blk.set_ h i (.bool b)
  unfold MetB
  rw [List.map_set]
  simpa using this
theorem MetB.made (w : World) (k : Nat) : MetB (w.alloc (.cells (madeCells #[.bool false] k) 4)) w.heap.size (List.replicate k false) := by
  have e : madeCells #[.bool false] k = ((List.replicate k false).map Value.bool).toArray := by
    unfold madeCells
    apply Array.ext
    · simp
    · intro i h1 h2
      simp [Nat.mod_one]
  unfold MetB
  rw [← e]; exact Blk.new _ _ _
/-- what is known of the kids ahead of k -/
structure KidsTo (m : AModel) (n : ANode) (k : Nat) (ml : List Bool) : Prop where
  len : ml.length = m.nodes.length
  met : ∀ i (h : i < ml.length) (h' : i < m.nodes.length), ml[i] = true ↔ m.nodes[i].id ∈ n.kids.take k
  at_ : ∀ x ∈ n.kids.take k, KidAt m n.id x
  nodup : (n.kids.take k).Nodup
theorem KidsTo.start (m : AModel) (n : ANode) : KidsTo m n 0 (List.replicate m.nodes.length false) := ⟨by simp, by simp, by simp, by simp⟩
theorem KidsTo.next {m : AModel} {n : ANode} {k i : Nat} {ml : List Bool} (h : KidsTo m n k ml) (hs : Srt m.nodes) (hk : k < n.kids.length) (hi : i < m.nodes.length) (e : m.nodes[i].id = n.kids[k]) (hp : m.nodes[i].parent = n.id) (hm : ml[i]'(by rw [h.len]; exact hi) = false) : KidsTo m n (k + 1) (ml.set i true) := by
  have hl := h.len
  have et : n.kids.take (k + 1) = n.kids.take k ++ [n.kids[k]] := List.take_succ_eq_append_getElem hk
  refine ⟨by simpa using hl, fun j hj hj' => ?_, fun x hx => ?_, ?_⟩
  · rw [et, List.mem_append, List.mem_singleton, ← e]
    by_cases hij : i = j
    · subst hij; simp
    · rw [List.getElem_set_ne hij, h.met j (by omega) hj']
      constructor
      · exact .inl
      · rintro (h1 | h1)
        · exact h1
        · exact absurd (hs.inj hj' hi h1).symm hij
  · rw [et] at hx
    rcases List.mem_append.1 hx with hx | hx
    · exact h.at_ x hx
    · simp at hx; subst hx
      exact ⟨m.nodes[i], List.getElem_mem hi, e, hp⟩
  · rw [et, List.nodup_append]
    refine ⟨h.nodup, by simp, fun a ha b hb => ?_⟩
    simp at hb; subst hb
    intro e2
    subst e2
    have := (h.met i (by omega) hi).2 (by rw [e]; exact ha)
    rw [hm] at this; cases this
theorem KidsTo.twice {m : AModel} {n : ANode} {k i : Nat} {ml : List Bool} (h : KidsTo m n k ml) (hk : k < n.kids.length) (hi : i < m.nodes.length) (e : m.nodes[i].id = n.kids[k]) (hm : ml[i]'(by rw [h.len]; exact hi) = true) : ¬ n.kids.Nodup := by
  intro hd
  have h1 := (h.met i (by rw [h.len]; exact hi) hi).1 hm
  rw [e] at h1
  obtain ⟨j, hj, e2⟩ := List.getElem_of_mem h1
  have hj' : j < k := by have := hj; rw [List.length_take] at this; omega
  rw [List.getElem_take] at e2
  have := (List.pairwise_iff_getElem.1 (List.nodup_iff_pairwise_ne.1 hd)) j k (by omega) hk hj'
  exact this e2
theorem kid_not {m : AModel} {n : ANode} {k i : Nat} (hs : Srt m.nodes) (hk : k < n.kids.length) (hi : i < m.nodes.length) (e : m.nodes[i].id = n.kids[k]) (hp : m.nodes[i].parent ≠ n.id) : ¬ KidsAt m n := by
  intro h
  obtain ⟨x, hx, e1, e2⟩ := h n.kids[k] (List.getElem_mem hk)
  obtain ⟨j, hj, rfl⟩ := List.getElem_of_mem hx
  have := hs.inj hi hj (by omega)
  subst this; exact hp e2
theorem kid_none {m : AModel} {n : ANode} {k : Nat} (hk : k < n.kids.length) (h : ∀ i (h : i < m.nodes.length), m.nodes[i].id ≠ n.kids[k]) : ¬ KidsAt m n := by
  intro h2
  obtain ⟨x, hx, e1, e2⟩ := h2 n.kids[k] (List.getElem_mem hk)
  obtain ⟨j, hj, rfl⟩ := List.getElem_of_mem hx
  exact h j hj e1

set_option maxRecDepth 100000 in
set_option maxHeartbeats 2000000 in
theorem plain_any (A : Option Addr) (c : Nat) (m : AModel) (n : ANode) (Sp Sk Sr : Option Addr) (cp ck cr : Nat) (w : World) (F : Nat → Prop) (hF : ∀ b, F b → b < w.heap.size) (h : RowOf 7 ENode w F A m.nodes) (hs : Srt m.nodes) (hl : m.nodes.length ≤ 1048576)
    (hp : RowOf 2 EProp w F Sp n.props) (hk : RowOf 1 EInt w F Sk n.kids) (hr : RowOf 2 ERef w F Sr n.refs) (lp : n.props.length ≤ 9223372036854775807) (lk : n.kids.length ≤ 9223372036854775807) (lr : n.refs.length ≤ 9223372036854775807)
    (zc : n.concept.size ≤ 9223372036854775807) (zp : ∀ x ∈ n.props, x.name.size ≤ 9223372036854775807 ∧ x.value.size ≤ 9223372036854775807) (zr : ∀ x ∈ n.refs, x.role.size ≤ 9223372036854775807) :
    Calls Tryd.prog 37 #[.agg #[.int .i64 m.next, .slice A m.nodes.length c], .agg #[.int .i64 n.id, .string n.concept, .int .i64 n.parent, .string n.role, .slice Sp n.props.length cp, .slice Sk n.kids.length ck, .slice Sr n.refs.length cr]] w
      fun e w' => e = .returned (.bool (plainB m n)) ∧ Below w.heap.size w w' := by
  have hmk : ∀ w0, (Instr.makeSlice 91 (.int .i64 m.nodes.length) (.int .i64 m.nodes.length)).run Tryd.prog w0 = .ok (.slice (some ⟨w0.heap.size, 0, none⟩) m.nodes.length m.nodes.length) (w0.alloc (.cells (madeCells #[.bool false] m.nodes.length) 4)) := by
    intro w0
    obtain ⟨i, hi, hz, hsize, hby⟩ := info_parts bool_info
    have := run_make (P := Tryd.prog) w0 91 4 i (.bool false) Tryd.underlying91 hi hz .i64 .i64 m.nodes.length m.nodes.length (by omega) (by omega) (by rw [hby]; omega) (by omega)
    rw [hsize] at this
    simpa [Value.cells] using this
  go_enter Tryd.func37, Tryd.ntmps37
  cases hwc : wordA n.concept
  · have E := Lib.hid (plainB_no (m := m) (n := n) (fun h => by rw [h.1] at hwc; cases hwc))
    have HWD := Lib.hid (fun w0 => word_is zc hwc w0)
    clear hwc
    go_wp2_with fail
    refine (HWD.out _).mono ?_
    rintro _ _ ⟨rfl, rfl⟩
    go_wp2
    go_ret
    exact ⟨by rw [E.out]; rfl, ((Below.refl _ _).alloc (Nat.le_refl _) _).alloc (by simp) _⟩
  · have HWD := Lib.hid (fun w0 => word_is zc hwc w0)
    have HC := Lib.hid hwc
    clear hwc
    go_wp2_with fail
    refine (HWD.out _).mono ?_
    rintro _ _ ⟨rfl, rfl⟩
    by_cases hkl : n.kids.length ≤ m.nodes.length
    · have hkl' : decide (m.nodes.length < n.kids.length) = false := decide_eq_false (by omega)
      go_wp2_with fail
      go_loopg [5] n.props.length (fun g s5 wx => ∃ k : Nat, s5 = .int .i64 k ∧ g = n.props.length - k ∧ k ≤ n.props.length ∧ Below w.heap.size w wx ∧ Blk wx w.heap.size 24 #[.int .i64 m.next, .slice A m.nodes.length c] ∧ Blk wx (w.heap.size + 1) 37 #[.int .i64 n.id, .string n.concept, .int .i64 n.parent, .string n.role, .slice Sp n.props.length cp, .slice Sk n.kids.length ck, .slice Sr n.refs.length cr] ∧ PropsTo n.props k)
      case atStart => exact ⟨0, rfl, rfl, Nat.zero_le _, ((Below.refl _ _).alloc (Nat.le_refl _) _).alloc (by simp) _, (Blk.new _ _ _).alloc _, Blk.new' (by simp), fun j hj => absurd hj (Nat.not_lt_zero _)⟩
      case round =>
        obtain ⟨k, rfl, rfl, hkk, hb, hmb, hnb, hall⟩ := hrel
        have HB := Lib.hid hb; have HM := Lib.hid hmb; have HN := Lib.hid hnb; have HA := Lib.hid hall
        have m0 := hmb.cell 0; have m1 := hmb.cell 1
        have n0 := hnb.cell 0; have n4 := hnb.cell 4; have n5 := hnb.cell 5; have n6 := hnb.cell 6
        have hmlt := hmb.lt; have hnlt := hnb.lt
        simp at m0 m1 n0 n4 n5 n6
        clear hmb hnb hall
        by_cases hlt : k < n.props.length
        · have hlt' : (k : Int) < n.props.length := by omega
          have k0 : (0 : Int) ≤ k := by omega
          have hR := RowOf.keep EProp.stays (Keep.below hb hF) (F' := F) (fun _ h => h) hp
          obtain ⟨b, off, rfl, hbF, d0, d1⟩ := prop_at hR hlt
          have hzz := (zp n.props[k] (List.getElem_mem hlt)).1
          have HR := Lib.hid hR
          clear hR hb
          cases hw : wordA n.props[k].name
          · have HWD := Lib.hid (fun w0 => word_is hzz hw w0)
            have E := Lib.hid (plainB_no (m := m) (n := n) (fun h => by have := (h.2.2.1 k hlt).1; rw [hw] at this; cases this))
            clear hw
            go_wp2
            go_quiet ((go_at_call 54; exact Calls.quiet_of_same (same_flip (HWD.out _))))
            go_wp2
            go_ret
            exact ⟨by rw [E.out]; rfl, below_drewN HB.out _⟩
          · have HWD := Lib.hid (fun w0 => word_is hzz hw w0)
            have HW := Lib.hid hw
            clear hw
            by_cases hv : n.props[k].value.size ≤ 4096
            · have hv' : decide ((4096 : Int) < n.props[k].value.size) = false := decide_eq_false (by omega)
              by_cases hk0 : k = 0
              · subst hk0
                have g0 : decide ((0 : Int) < ((0 : Nat) : Int)) = false := by decide
                simp only [Nat.zero_mul, Nat.add_zero, Nat.zero_add] at d0 d1
                have g2 : (0 : Int) < n.props.length := by omega
                have HP := Lib.hid (show PropAt n.props _ from fun _ => ⟨HW.out, hv, fun h => absurd h (by omega)⟩)
                go_wp2
                go_quiet ((go_at_call 54; exact Calls.quiet_of_same (same_flip (HWD.out _))))
                go_wp2
                go_roundg (n.props.length - (0 + 1))
                case measure => omega
                case rel => exact ⟨0 + 1, by go_num, rfl, by omega, below_drewN HB.out _, HM.out.drewN _, HN.out.drewN _, HA.out.next HP.out⟩
              · obtain ⟨i, rfl⟩ : ∃ i, k = i + 1 := ⟨k - 1, by omega⟩
                obtain ⟨b', off', e', _, d2, _⟩ := prop_at HR.out (show i < n.props.length by omega)
                injection e' with e'
                injection e' with e1 e2
                subst e1; subst e2
                have q1 : IntKind.i64.wrap (((i + 1 : Nat) : Int) - 1) = i := by rw [IntWalk.i64_in _ ⟨by omega, by omega⟩]; omega
                have q2 : (i : Int) < n.props.length := by omega
                have q3 : (0 : Int) ≤ i := by omega
                have q4 : (0 : Int) < ((i + 1 : Nat) : Int) := by omega
                have q7 : (i : Int) + 1 < n.props.length := by omega
                have q8 : (0 : Int) ≤ (i : Int) + 1 := by omega
                have q9 : ((i : Int) + 1).toNat = i + 1 := by omega
                have q5 : (0 : Int) < (i : Int) + 1 := by omega
                have q6 : IntKind.i64.wrap ((i : Int) + 1 - 1) = i := by rw [IntWalk.i64_in _ ⟨by omega, by omega⟩]; omega
                cases hg : Op.bytesLess n.props[i].name.toList n.props[i + 1].name.toList
                · have E := Lib.hid (plainB_no (m := m) (n := n) (fun h => by have := (h.2.2.1 (i + 1) hlt).2.2 (by omega); simp [geS, hg] at this))
                  go_wp2
                  go_quiet ((go_at_call 54; exact Calls.quiet_of_same (same_flip (HWD.out _))))
                  go_wp2
                  go_ret
                  exact ⟨by rw [E.out]; rfl, below_drewN HB.out _⟩
                · have HP := Lib.hid (show PropAt n.props _ from fun _ => ⟨HW.out, hv, fun _ => by simp [geS, hg]⟩)
                  go_wp2
                  go_quiet ((go_at_call 54; exact Calls.quiet_of_same (same_flip (HWD.out _))))
                  go_wp2
                  go_roundg (n.props.length - (i + 1 + 1))
                  case measure => omega
                  case rel => exact ⟨i + 1 + 1, by go_num, rfl, by omega, below_drewN HB.out _, HM.out.drewN _, HN.out.drewN _, HA.out.next HP.out⟩
            · have hv' : (4096 : Int) < n.props[k].value.size := by omega
              have E := Lib.hid (plainB_no (m := m) (n := n) (fun h => hv (h.2.2.1 k hlt).2.1))
              go_wp2
              go_quiet ((go_at_call 54; exact Calls.quiet_of_same (same_flip (HWD.out _))))
              go_wp2
              go_ret
              exact ⟨by rw [E.out]; rfl, below_drewN HB.out _⟩
        · have hlt' : decide ((k : Int) < n.props.length) = false := decide_eq_false (by omega)
          have HALL := Lib.hid (PropsTo.all HA.out hlt)
          clear hb
          have HPROPS := Lib.hid HALL.out
          obtain ⟨wp, rfl⟩ : ∃ wp : World, wp = wr := ⟨_, rfl⟩
          go_wp2_with fail
          clear HALL HA m0 m1 n0 n4 n5 n6 hmlt hnlt hkk hlt hlt'
          go_loopg [6] n.refs.length (fun g s5 wx => ∃ k : Nat, s5 = .int .i64 k ∧ g = n.refs.length - k ∧ k ≤ n.refs.length ∧ Below w.heap.size w wx ∧ Blk wx w.heap.size 24 #[.int .i64 m.next, .slice A m.nodes.length c] ∧ Blk wx (w.heap.size + 1) 37 #[.int .i64 n.id, .string n.concept, .int .i64 n.parent, .string n.role, .slice Sp n.props.length cp, .slice Sk n.kids.length ck, .slice Sr n.refs.length cr] ∧ RefsTo m.next n.refs k)
          case atStart => exact ⟨0, rfl, rfl, Nat.zero_le _, HB.out, HM.out, HN.out, fun j hj => absurd hj (Nat.not_lt_zero _)⟩
          case round =>
            obtain ⟨k, rfl, rfl, hkk, hb, hmb, hnb, hall⟩ := hrel
            have HB := Lib.hid hb; have HM := Lib.hid hmb; have HN := Lib.hid hnb; have HA := Lib.hid hall
            have m0 := hmb.cell 0; have m1 := hmb.cell 1
            have n0 := hnb.cell 0; have n4 := hnb.cell 4; have n5 := hnb.cell 5; have n6 := hnb.cell 6
            have hmlt := hmb.lt; have hnlt := hnb.lt
            simp at m0 m1 n0 n4 n5 n6
            clear hmb hnb hall
            by_cases hlt : k < n.refs.length
            · have hlt' : (k : Int) < n.refs.length := by omega
              have k0 : (0 : Int) ≤ k := by omega
              have hR := RowOf.keep ERef.stays (Keep.below hb hF) (F' := F) (fun _ h => h) hr
              obtain ⟨b, off, rfl, hbF, d0, d1⟩ := ref_at hR hlt
              have hzz := zr n.refs[k] (List.getElem_mem hlt)
              have HR := Lib.hid hR
              clear hR hb
              cases hw : wordA n.refs[k].role
              · have HWD := Lib.hid (fun w0 => word_is hzz hw w0)
                have E := Lib.hid (plainB_no (m := m) (n := n) (fun h => by have := (h.2.2.2.1 k hlt).1; rw [hw] at this; cases this))
                clear hw
                go_wp2
                go_quiet ((go_at_call 54; exact Calls.quiet_of_same (same_flip (HWD.out _))))
                go_wp2
                go_ret
                exact ⟨by rw [E.out]; rfl, below_drewN HB.out _⟩
              · have HWD := Lib.hid (fun w0 => word_is hzz hw w0)
                have HW := Lib.hid hw
                clear hw
                by_cases hv : 1 ≤ n.refs[k].target
                · have hv' : decide (n.refs[k].target < 1) = false := decide_eq_false (by omega)
                  by_cases hu : n.refs[k].target < m.next
                  · have hu' : decide (m.next ≤ n.refs[k].target) = false := decide_eq_false (by omega)
                    by_cases hk0 : k = 0
                    · subst hk0
                      have g0 : decide ((0 : Int) < ((0 : Nat) : Int)) = false := by decide
                      simp only [Nat.zero_mul, Nat.add_zero, Nat.zero_add] at d0 d1
                      have g2 : (0 : Int) < n.refs.length := by omega
                      have HP := Lib.hid (show RefAt m.next n.refs _ from fun _ => ⟨HW.out, hv, hu, fun h => absurd h (by omega)⟩)
                      go_wp2
                      go_quiet ((go_at_call 54; exact Calls.quiet_of_same (same_flip (HWD.out _))))
                      go_wp2
                      go_roundg (n.refs.length - (0 + 1))
                      case measure => omega
                      case rel => exact ⟨0 + 1, by go_num, rfl, by omega, below_drewN HB.out _, HM.out.drewN _, HN.out.drewN _, HA.out.next HP.out⟩
                    · obtain ⟨i, rfl⟩ : ∃ i, k = i + 1 := ⟨k - 1, by omega⟩
                      obtain ⟨b', off', e', _, d2, _⟩ := ref_at HR.out (show i < n.refs.length by omega)
                      injection e' with e'
                      injection e' with e1 e2
                      subst e1; subst e2
                      have q1 : IntKind.i64.wrap (((i + 1 : Nat) : Int) - 1) = i := by rw [IntWalk.i64_in _ ⟨by omega, by omega⟩]; omega
                      have q2 : (i : Int) < n.refs.length := by omega
                      have q3 : (0 : Int) ≤ i := by omega
                      have q4 : (0 : Int) < ((i + 1 : Nat) : Int) := by omega
                      have q7 : (i : Int) + 1 < n.refs.length := by omega
                      have q8 : (0 : Int) ≤ (i : Int) + 1 := by omega
                      have q9 : ((i : Int) + 1).toNat = i + 1 := by omega
                      have q5 : (0 : Int) < (i : Int) + 1 := by omega
                      have q6 : IntKind.i64.wrap ((i : Int) + 1 - 1) = i := by rw [IntWalk.i64_in _ ⟨by omega, by omega⟩]; omega
                      cases hg : Op.bytesLess n.refs[i].role.toList n.refs[i + 1].role.toList
                      · have E := Lib.hid (plainB_no (m := m) (n := n) (fun h => by have := (h.2.2.2.1 (i + 1) hlt).2.2.2 (by omega); simp [geS, hg] at this))
                        go_wp2
                        go_quiet ((go_at_call 54; exact Calls.quiet_of_same (same_flip (HWD.out _))))
                        go_wp2
                        go_ret
                        exact ⟨by rw [E.out]; rfl, below_drewN HB.out _⟩
                      · have HP := Lib.hid (show RefAt m.next n.refs _ from fun _ => ⟨HW.out, hv, hu, fun _ => by simp [geS, hg]⟩)
                        go_wp2
                        go_quiet ((go_at_call 54; exact Calls.quiet_of_same (same_flip (HWD.out _))))
                        go_wp2
                        go_roundg (n.refs.length - (i + 1 + 1))
                        case measure => omega
                        case rel => exact ⟨i + 1 + 1, by go_num, rfl, by omega, below_drewN HB.out _, HM.out.drewN _, HN.out.drewN _, HA.out.next HP.out⟩
                  · have hu' : m.next ≤ n.refs[k].target := by omega
                    have E := Lib.hid (plainB_no (m := m) (n := n) (fun h => hu (h.2.2.2.1 k hlt).2.2.1))
                    go_wp2
                    go_quiet ((go_at_call 54; exact Calls.quiet_of_same (same_flip (HWD.out _))))
                    go_wp2
                    go_ret
                    exact ⟨by rw [E.out]; rfl, below_drewN HB.out _⟩
                · have hv' : n.refs[k].target < 1 := by omega
                  have E := Lib.hid (plainB_no (m := m) (n := n) (fun h => hv (h.2.2.2.1 k hlt).2.1))
                  go_wp2
                  go_quiet ((go_at_call 54; exact Calls.quiet_of_same (same_flip (HWD.out _))))
                  go_wp2
                  go_ret
                  exact ⟨by rw [E.out]; rfl, below_drewN HB.out _⟩
            · have hlt' : decide ((k : Int) < n.refs.length) = false := decide_eq_false (by omega)
              have HALL := Lib.hid (RefsTo.all HA.out hlt)
              clear hb
              have HREFS := Lib.hid HALL.out
              go_wp2_with fail
              clear HA HALL m0 m1 n0 n4 n5 n6 hmlt hnlt hkk hlt hlt'
              obtain ⟨wk, rfl⟩ : ∃ wk : World, wk = wr := ⟨_, rfl⟩
              go_loopg [8, 9] n.kids.length (fun g s8 _ wx => ∃ (k : Nat) (ml : List Bool), s8 = .int .i64 k ∧ g = n.kids.length - k ∧ k ≤ n.kids.length ∧ Below w.heap.size w wx ∧ Blk wx w.heap.size 24 #[.int .i64 m.next, .slice A m.nodes.length c] ∧ Blk wx (w.heap.size + 1) 37 #[.int .i64 n.id, .string n.concept, .int .i64 n.parent, .string n.role, .slice Sp n.props.length cp, .slice Sk n.kids.length ck, .slice Sr n.refs.length cr] ∧ MetB wx wk.heap.size ml ∧ KidsTo m n k ml)
              case atStart => exact ⟨0, _, rfl, rfl, Nat.zero_le _, HB.out.alloc (HB.out.size) _, HM.out.alloc _, HN.out.alloc _, MetB.made _ _, KidsTo.start m n⟩
              case round =>
                have hwk1 := HN.out.lt
                have hwk0 := HB.out.size
                clear HB HM HN
                obtain ⟨k, ml, rfl, rfl, hkk, hb, hmb, hnb, hme, hK⟩ := hrel
                have HB := Lib.hid hb; have HM := Lib.hid hmb; have HN := Lib.hid hnb; have HE := Lib.hid hme; have HK := Lib.hid hK
                have m0 := hmb.cell 0; have m1 := hmb.cell 1
                have n5 := hnb.cell 5
                have hmlt := hmb.lt; have hnlt := hnb.lt; have helt := Blk.lt hme
                simp at m0 m1 n5
                have hmll := hK.len
                clear hmb hnb hme hK
                by_cases hlt : k < n.kids.length
                · have hlt' : (k : Int) < n.kids.length := by omega
                  have k0 : (0 : Int) ≤ k := by omega
                  obtain ⟨b, off, rfl, hbF, d0⟩ := int_at (RowOf.keep EInt.stays (Keep.below hb hF) (F' := F) (fun _ h => h) hk) hlt
                  clear hb
                  have Hmll := Lib.hid hmll; clear hmll
                  go_upto_region 17 with fail
                  go_still_tail 6, (by kernel_rfl)
                  go_wp2_with fail
                  refine (at_any A c _ _ m.nodes _ F (by exact fun b hb => Nat.lt_of_lt_of_le (hF b hb) HB.out.size) (by exact h.keep ENode.stays (Keep.below HB.out.drew hF) (fun _ h => h)) hs hl).mono ?_
                  rintro _ w2 ⟨rfl, hb2⟩
                  have HB2 := Lib.hid (HB.out.drew.trans (hb2.mono HB.out.size))
                  have HM2 := Lib.hid (Blk.below HM.out.drew hb2 hmlt)
                  have HN2 := Lib.hid (Blk.below HN.out.drew hb2 hnlt)
                  have HE2 : Hid (MetB w2 wk.heap.size ml) := Lib.hid (Blk.below (Blk.drew HE.out) hb2 helt)
                  have m1 := HM2.out.cell 1; have n0 := HN2.out.cell 0
                  have hmlt2 := HM2.out.lt; have hnlt2 := HN2.out.lt; have helt2 := Blk.lt HE2.out
                  simp at m1 n0
                  clear hb2 d0 n5 m0
                  rcases atI_cases m.nodes n.kids[k] with ⟨i, hi, hi1, hi2⟩ | ⟨hi1, hi2⟩
                  · rw [hi2]
                    have i0 : (0 : Int) ≤ i := by omega
                    have i1 : decide ((i : Int) < 0) = false := decide_eq_false (by omega)
                    have i2 : (i : Int) < m.nodes.length := by omega
                    obtain ⟨b', off', Sp', cp', Sk', ck', Sr', cr', rfl, hbF', _, _, e2, _, _, _, _, _⟩ := node_at (RowOf.keep ENode.stays (Keep.below HB2.out hF) (F' := F) (fun _ h => h) h) hi
                    have HI := Lib.hid hi1
                    clear hi1 hi2
                    have hil : i < ml.length := by rw [Hmll.out]; exact hi
                    have e3 := HE2.out.cell hil
                    have e4 := Blk.frozen HE2.out i
                    cases hpe : (m.nodes[i].parent != n.id)
                    · have hp0 := (bne_eq_false_iff_eq.1 hpe)
                      have HP0 := Lib.hid hp0; clear hp0
                      cases hmi : ml[i]
                      · rw [hmi] at e3
                        have HKN := Lib.hid (HK.out.next hs hlt hi HI.out HP0.out hmi)
                        clear hmi
                        go_wp2
                        go_quiet (fail)
                        go_wp2
                        go_roundg (n.kids.length - (k + 1))
                        case measure => omega
                        case rel => exact ⟨k + 1, _, by go_num, rfl, by omega, (below_drewN HB2.out _).setCell (p := ⟨wk.heap.size, i, none⟩) hwk0 _, (HM2.out.drewN _).far (p := ⟨wk.heap.size, i, none⟩) (by show w.heap.size ≠ wk.heap.size; omega) _, (HN2.out.drewN _).far (p := ⟨wk.heap.size, i, none⟩) (by show w.heap.size + 1 ≠ wk.heap.size; omega) _, MetB.set_ (Blk.drewN HE2.out _) i true, HKN.out⟩
                      · rw [hmi] at e3
                        have E := Lib.hid (plainB_no (m := m) (n := n) (fun h => HK.out.twice hlt hi HI.out hmi h.2.2.2.2.2))
                        clear hmi
                        go_wp2
                        go_quiet (fail)
                        go_wp2
                        go_ret
                        exact ⟨by rw [E.out]; rfl, below_drewN HB2.out _⟩
                    · have hp0 := (bne_iff_ne.1 hpe)
                      have E := Lib.hid (plainB_no (m := m) (n := n) (fun h => kid_not hs hlt hi HI.out hp0 h.2.2.2.2.1))
                      clear hp0
                      go_wp2
                      go_quiet (fail)
                      go_wp2
                      go_ret
                      exact ⟨by rw [E.out]; rfl, below_drewN HB2.out _⟩
                  · rw [hi2]
                    have E := Lib.hid (plainB_no (m := m) (n := n) (fun h => kid_none hlt hi1 h.2.2.2.2.1))
                    clear hi1 hi2
                    go_wp2
                    go_quiet (fail)
                    go_wp2
                    go_ret
                    exact ⟨by rw [E.out]; rfl, below_drewN HB2.out _⟩
                · have hlt' : decide ((k : Int) < n.kids.length) = false := decide_eq_false (by omega)
                  have ht : n.kids.take k = n.kids := List.take_of_length_le (by omega)
                  have E := Lib.hid (plainB_yes (m := m) (n := n) ⟨HC.out, hkl, HPROPS.out, HREFS.out, fun x hx => HK.out.at_ x (by rw [ht]; exact hx), by have := HK.out.nodup; rwa [ht] at this⟩)
                  clear ht hb
                  go_wp2
                  go_ret
                  exact ⟨by rw [E.out]; rfl, HB.out⟩
    · have hkl' : (m.nodes.length : Int) < n.kids.length := by omega
      have E := Lib.hid (plainB_no (m := m) (n := n) (fun h => hkl h.2.1))
      go_wp2
      go_ret
      exact ⟨by rw [E.out]; rfl, ((Below.refl _ _).alloc (Nat.le_refl _) _).alloc (by simp) _⟩
end Go.Proofs.YtpkapommekkbcaaDoor
