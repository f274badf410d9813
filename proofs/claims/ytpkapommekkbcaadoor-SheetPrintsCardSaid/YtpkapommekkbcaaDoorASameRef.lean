import Derived.Test.YtpkapommekkbcaaDoorASameOwn
set_option linter.unusedSimpArgs false
set_option linter.unusedVariables false
namespace Go.Proofs.YtpkapommekkbcaaDoor
open Go Go.RowKit

def HeadEq (a b : ANode) : Prop := a.id = b.id ∧ a.concept = b.concept ∧ a.parent = b.parent ∧ a.role = b.role ∧ a.props.length = b.props.length ∧ a.refs.length = b.refs.length
open Classical in
noncomputable def headEqB (a b : ANode) : Bool := decide (HeadEq a b)
open Classical in
theorem headEqB_no {a b : ANode} (h : ¬ HeadEq a b) : headEqB a b = false := decide_eq_false h
open Classical in
theorem headEqB_yes {a b : ANode} (h : HeadEq a b) : headEqB a b = true := decide_eq_true h
open Classical in
theorem headEqB_is {a b : ANode} {x : Bool} (h : headEqB a b = x) : HeadEq a b ↔ x = true := by rw [← h]; exact (decide_eq_true_iff).symm
theorem HeadEq.refl_of {a b : ANode} (e : a = b) : HeadEq a b := by subst e; exact ⟨rfl, rfl, rfl, rfl, rfl, rfl⟩

set_option maxRecDepth 100000 in
set_option maxHeartbeats 2000000 in
theorem sameNode_any (a b : ANode) (Sp Sk Sr Sp' Sk' Sr' : Option Addr) (cp ck cr cp' ck' cr' : Nat) (w : World) (F F' : Nat → Prop) (hF : ∀ b, F b → b < w.heap.size) (hF' : ∀ b, F' b → b < w.heap.size)
    (hp : RowOf 2 EProp w F Sp a.props) (hk : RowOf 1 EInt w F Sk a.kids) (hr : RowOf 2 ERef w F Sr a.refs) (hp' : RowOf 2 EProp w F' Sp' b.props) (hk' : RowOf 1 EInt w F' Sk' b.kids) (hr' : RowOf 2 ERef w F' Sr' b.refs)
    (lp : a.props.length ≤ 9223372036854775807) (lk : a.kids.length ≤ 9223372036854775807) (lr : a.refs.length ≤ 9223372036854775807) :
    Calls Tryd.prog 28 #[.agg #[.int .i64 a.id, .string a.concept, .int .i64 a.parent, .string a.role, .slice Sp a.props.length cp, .slice Sk a.kids.length ck, .slice Sr a.refs.length cr], .agg #[.int .i64 b.id, .string b.concept, .int .i64 b.parent, .string b.role, .slice Sp' b.props.length cp', .slice Sk' b.kids.length ck', .slice Sr' b.refs.length cr']] w fun e w' => e = .returned (.bool (eqB a b)) ∧ Below w.heap.size w w' := by
  have hneP := neq_prop
  have hneR := neq_ref
  have hgdP := eqGuard_struct (t := 57) (op := .neq) (h := by kernel_rfl)
  have hgdR := eqGuard_struct (t := 60) (op := .neq) (h := by kernel_rfl)
  go_enter Tryd.func28, Tryd.ntmps28
  go_upto_region 1 with fail
  go_cut [50] (fun s50 wx => s50 = .bool (!(headEqB a b)) ∧ Below w.heap.size w wx ∧ Blk wx w.heap.size 37 #[.int .i64 a.id, .string a.concept, .int .i64 a.parent, .string a.role, .slice Sp a.props.length cp, .slice Sk a.kids.length ck, .slice Sr a.refs.length cr] ∧ Blk wx (w.heap.size + 1) 37 #[.int .i64 b.id, .string b.concept, .int .i64 b.parent, .string b.role, .slice Sp' b.props.length cp', .slice Sk' b.kids.length ck', .slice Sr' b.refs.length cr'])
  case first => as_aux_lemma =>
    clear hneP hneR hgdP hgdR
    cases h1 : (a.id != b.id)
    · cases h2 : (a.concept.toList == b.concept.toList)
      · have E := Lib.hid (headEqB_no (a := a) (b := b) (fun e => by obtain ⟨e1, e2, e3, e4, e5, e6⟩ := e; simp [e1, e2, e3, e4, e5, e6] at h2))
        go_wp2
        go_meet
        case rel => exact ⟨by rw [E.out]; rfl, ((Below.refl _ _).alloc (Nat.le_refl _) _).alloc (by simp) _, (Blk.new _ _ _).alloc _, Blk.new' (by simp)⟩
      · cases h3 : (a.parent != b.parent)
        · cases h4 : (a.role.toList == b.role.toList)
          · have E := Lib.hid (headEqB_no (a := a) (b := b) (fun e => by obtain ⟨e1, e2, e3, e4, e5, e6⟩ := e; simp [e1, e2, e3, e4, e5, e6] at h4))
            go_wp2
            go_meet
            case rel => exact ⟨by rw [E.out]; rfl, ((Below.refl _ _).alloc (Nat.le_refl _) _).alloc (by simp) _, (Blk.new _ _ _).alloc _, Blk.new' (by simp)⟩
          · cases h5 : (((a.props.length : Nat) : Int) != b.props.length)
            · cases h6 : (((a.refs.length : Nat) : Int) != b.refs.length)
              · have E := Lib.hid (headEqB_yes (a := a) (b := b) ⟨bne_eq_false_iff_eq.1 h1, (ba_beq h2).2 rfl, bne_eq_false_iff_eq.1 h3, (ba_beq h4).2 rfl, by have := bne_eq_false_iff_eq.1 h5; omega, by have := bne_eq_false_iff_eq.1 h6; omega⟩)
                go_wp2
                go_meet
                case rel => exact ⟨by rw [E.out]; rfl, ((Below.refl _ _).alloc (Nat.le_refl _) _).alloc (by simp) _, (Blk.new _ _ _).alloc _, Blk.new' (by simp)⟩
              · have E := Lib.hid (headEqB_no (a := a) (b := b) (fun e => by obtain ⟨e1, e2, e3, e4, e5, e6⟩ := e; simp [e1, e2, e3, e4, e5, e6] at h6))
                go_wp2
                go_meet
                case rel => exact ⟨by rw [E.out]; rfl, ((Below.refl _ _).alloc (Nat.le_refl _) _).alloc (by simp) _, (Blk.new _ _ _).alloc _, Blk.new' (by simp)⟩
            · have E := Lib.hid (headEqB_no (a := a) (b := b) (fun e => by obtain ⟨e1, e2, e3, e4, e5, e6⟩ := e; simp [e1, e2, e3, e4, e5, e6] at h5))
              go_wp2
              go_meet
              case rel => exact ⟨by rw [E.out]; rfl, ((Below.refl _ _).alloc (Nat.le_refl _) _).alloc (by simp) _, (Blk.new _ _ _).alloc _, Blk.new' (by simp)⟩
        · have E := Lib.hid (headEqB_no (a := a) (b := b) (fun e => by obtain ⟨e1, e2, e3, e4, e5, e6⟩ := e; simp [e1, e2, e3, e4, e5, e6] at h3))
          go_wp2
          go_meet
          case rel => exact ⟨by rw [E.out]; rfl, ((Below.refl _ _).alloc (Nat.le_refl _) _).alloc (by simp) _, (Blk.new _ _ _).alloc _, Blk.new' (by simp)⟩
    · have E := Lib.hid (headEqB_no (a := a) (b := b) (fun e => by obtain ⟨e1, e2, e3, e4, e5, e6⟩ := e; simp [e1, e2, e3, e4, e5, e6] at h1))
      go_wp2
      go_meet
      case rel => exact ⟨by rw [E.out]; rfl, ((Below.refl _ _).alloc (Nat.le_refl _) _).alloc (by simp) _, (Blk.new _ _ _).alloc _, Blk.new' (by simp)⟩
  case rest => as_aux_lemma =>
    obtain ⟨rfl, hb, hmb, hnb⟩ := hcut
    have HB := Lib.hid hb; have HM := Lib.hid hmb; have HN := Lib.hid hnb
    clear hb hmb hnb
    cases hh : headEqB a b
    · have E := Lib.hid (eqB_no (x := a) (y := b) (fun e => by have := (headEqB_is hh).1 (HeadEq.refl_of e); cases this))
      clear hh
      go_wp2
      go_ret
      exact ⟨by rw [E.out]; rfl, HB.out⟩
    · have HH := Lib.hid ((headEqB_is hh).2 rfl)
      have HLprops := Lib.hid HH.out.2.2.2.2.1
      have HLrefs := Lib.hid HH.out.2.2.2.2.2
      clear hh
      go_wp2_with fail
      go_loopg [5] a.props.length (fun g s5 wx => ∃ k : Nat, s5 = .int .i64 k ∧ g = a.props.length - k ∧ k ≤ a.props.length ∧ Below w.heap.size w wx ∧ Blk wx w.heap.size 37 #[.int .i64 a.id, .string a.concept, .int .i64 a.parent, .string a.role, .slice Sp a.props.length cp, .slice Sk a.kids.length ck, .slice Sr a.refs.length cr] ∧ Blk wx (w.heap.size + 1) 37 #[.int .i64 b.id, .string b.concept, .int .i64 b.parent, .string b.role, .slice Sp' b.props.length cp', .slice Sk' b.kids.length ck', .slice Sr' b.refs.length cr'] ∧ SameTo a.props b.props k)
      case atStart => exact ⟨0, rfl, rfl, Nat.zero_le _, HB.out, HM.out, HN.out, fun j _ _ hj => absurd hj (Nat.not_lt_zero _)⟩
      case round =>
        clear HB HM HN
        obtain ⟨k, rfl, rfl, hkk, hb, hmb, hnb, hS⟩ := hrel
        have HB := Lib.hid hb; have HM := Lib.hid hmb; have HN := Lib.hid hnb; have HS := Lib.hid hS
        have m4 := hmb.cell 4; have n4 := hnb.cell 4
        have hmlt := hmb.lt; have hnlt := hnb.lt
        simp at m4 n4
        clear hmb hnb hS
        by_cases hlt : k < a.props.length
        · have hlt' : (k : Int) < a.props.length := by omega
          have k0 : (0 : Int) ≤ k := by omega
          have hk2 : k < b.props.length := by have := HLprops.out; omega
          have hk2' : (k : Int) < b.props.length := by omega
          obtain ⟨b1, off, rfl, _, d0, d1⟩ := prop_at (RowOf.keep EProp.stays (Keep.below hb hF) (F' := F) (fun _ h => h) hp) hlt
          obtain ⟨b2, off', rfl, _, d2, d3⟩ := prop_at (RowOf.keep EProp.stays (Keep.below hb hF') (F' := F') (fun _ h => h) hp') hk2
          clear hb
          by_cases he : a.props[k] = b.props[k]
          · have HE := Lib.hid he
            have heb := eqB_yes he
            clear he
            go_wp2
            go_quiet (fail)
            go_wp2
            go_roundg (a.props.length - (k + 1))
            case measure => omega
            case rel => exact ⟨k + 1, by go_num, rfl, by omega, below_drewN HB.out _, HM.out.drewN _, HN.out.drewN _, HS.out.next (fun _ _ => HE.out)⟩
          · have E := Lib.hid (eqB_no (x := a) (y := b) (fun e => ne_at hlt hk2 he (by rw [e])))
            have heb := eqB_no he
            clear he
            go_wp2
            go_quiet (fail)
            go_wp2
            go_ret
            exact ⟨by rw [E.out]; rfl, below_drewN HB.out _⟩
        · have hlt' : decide ((k : Int) < a.props.length) = false := decide_eq_false (by omega)
          have HEprops := Lib.hid (HS.out.all HLprops.out hlt)
          clear hb
          go_wp2_with fail
          obtain ⟨wp, rfl⟩ : ∃ wp : World, wp = wr := ⟨_, rfl⟩
          clear HS m4 n4 hmlt hnlt hkk hlt hlt'
          go_loopg [6] a.refs.length (fun g s5 wx => ∃ k : Nat, s5 = .int .i64 k ∧ g = a.refs.length - k ∧ k ≤ a.refs.length ∧ Below w.heap.size w wx ∧ Blk wx w.heap.size 37 #[.int .i64 a.id, .string a.concept, .int .i64 a.parent, .string a.role, .slice Sp a.props.length cp, .slice Sk a.kids.length ck, .slice Sr a.refs.length cr] ∧ Blk wx (w.heap.size + 1) 37 #[.int .i64 b.id, .string b.concept, .int .i64 b.parent, .string b.role, .slice Sp' b.props.length cp', .slice Sk' b.kids.length ck', .slice Sr' b.refs.length cr'] ∧ SameTo a.refs b.refs k)
          case atStart => exact ⟨0, rfl, rfl, Nat.zero_le _, HB.out, HM.out, HN.out, fun j _ _ hj => absurd hj (Nat.not_lt_zero _)⟩
          case round =>
            clear HB HM HN
            obtain ⟨k, rfl, rfl, hkk, hb, hmb, hnb, hS⟩ := hrel
            have HB := Lib.hid hb; have HM := Lib.hid hmb; have HN := Lib.hid hnb; have HS := Lib.hid hS
            have m4 := hmb.cell 6; have n4 := hnb.cell 6
            have hmlt := hmb.lt; have hnlt := hnb.lt
            simp at m4 n4
            clear hmb hnb hS
            by_cases hlt : k < a.refs.length
            · have hlt' : (k : Int) < a.refs.length := by omega
              have k0 : (0 : Int) ≤ k := by omega
              have hk2 : k < b.refs.length := by have := HLrefs.out; omega
              have hk2' : (k : Int) < b.refs.length := by omega
              obtain ⟨b1, off, rfl, _, d0, d1⟩ := ref_at (RowOf.keep ERef.stays (Keep.below hb hF) (F' := F) (fun _ h => h) hr) hlt
              obtain ⟨b2, off', rfl, _, d2, d3⟩ := ref_at (RowOf.keep ERef.stays (Keep.below hb hF') (F' := F') (fun _ h => h) hr') hk2
              clear hb
              by_cases he : a.refs[k] = b.refs[k]
              · have HE := Lib.hid he
                have heb := eqB_yes he
                clear he
                go_wp2
                go_quiet (fail)
                go_wp2
                go_roundg (a.refs.length - (k + 1))
                case measure => omega
                case rel => exact ⟨k + 1, by go_num, rfl, by omega, below_drewN HB.out _, HM.out.drewN _, HN.out.drewN _, HS.out.next (fun _ _ => HE.out)⟩
              · have E := Lib.hid (eqB_no (x := a) (y := b) (fun e => ne_at hlt hk2 he (by rw [e])))
                have heb := eqB_no he
                clear he
                go_wp2
                go_quiet (fail)
                go_wp2
                go_ret
                exact ⟨by rw [E.out]; rfl, below_drewN HB.out _⟩
            · have hlt' : decide ((k : Int) < a.refs.length) = false := decide_eq_false (by omega)
              have HErefs := Lib.hid (HS.out.all HLrefs.out hlt)
              clear hb
              have m5 := HM.out.cell 5; have n5 := HN.out.cell 5
              simp at m5 n5
              have HC := Lib.hid (ints_any Sk Sk' ck ck' a.kids b.kids wr F F' (hk.keep EInt.stays (Keep.below HB.out hF) (fun _ h => h)) (hk'.keep EInt.stays (Keep.below HB.out hF') (fun _ h => h)) lk)
              cases he : eqB a.kids b.kids
              · have HC2 := Lib.hid (eq_is he HC.out)
                have E := Lib.hid (eqB_no (x := a) (y := b) (fun e => by have := (eqB_is he).1 (by rw [e]); cases this))
                clear he HC
                go_wp2_with fail
                refine HC2.out.mono ?_
                rintro _ _ ⟨rfl, n, rfl⟩
                go_wp2
                go_ret
                exact ⟨by rw [E.out]; rfl, below_drewN HB.out _⟩
              · have HC2 := Lib.hid (eq_is he HC.out)
                have E := Lib.hid (eqB_yes (x := a) (y := b) (node_ext HH.out.1 HH.out.2.1 HH.out.2.2.1 HH.out.2.2.2.1 HEprops.out ((eqB_is he).2 rfl) HErefs.out))
                clear he HC
                go_wp2_with fail
                refine HC2.out.mono ?_
                rintro _ _ ⟨rfl, n, rfl⟩
                go_wp2
                go_ret
                exact ⟨by rw [E.out]; rfl, below_drewN HB.out _⟩

set_option maxRecDepth 100000 in
set_option maxHeartbeats 2000000 in
theorem same_any (A A' : Option Addr) (c c' : Nat) (m m' : AModel) (w : World) (F F' : Nat → Prop) (hF : ∀ b, F b → b < w.heap.size) (hF' : ∀ b, F' b → b < w.heap.size) (h : RowOf 7 ENode w F A m.nodes) (h' : RowOf 7 ENode w F' A' m'.nodes) (hl : m.nodes.length ≤ 9223372036854775807) :
    Calls Tryd.prog 8 #[.agg #[.int .i64 m.next, .slice A m.nodes.length c], .agg #[.int .i64 m'.next, .slice A' m'.nodes.length c']] w fun e w' => e = .returned (.bool (eqB m m')) ∧ Below w.heap.size w w' := by
  have HB0 := Lib.hid (((Below.refl w.heap.size w).alloc (Nat.le_refl _) (.cells #[.int .i64 m.next, .slice A m.nodes.length c] 24)).alloc (by simp) (.cells #[.int .i64 m'.next, .slice A' m'.nodes.length c'] 24))
  cases h1 : (m.next != m'.next)
  · by_cases hll : m.nodes.length = m'.nodes.length
    · have hll' : (((m.nodes.length : Nat) : Int) != m'.nodes.length) = false := by rw [hll]; simp
      have HLL := Lib.hid hll
      have HNX := Lib.hid (bne_eq_false_iff_eq.1 h1)
      clear hll
      go_enter Tryd.func8, Tryd.ntmps8
      go_wp2_with fail
      clear h1 hll'
      go_loopg [5] m.nodes.length (fun g s5 wx => ∃ k : Nat, s5 = .int .i64 k ∧ g = m.nodes.length - k ∧ k ≤ m.nodes.length ∧ Below w.heap.size w wx ∧ Blk wx w.heap.size 24 #[.int .i64 m.next, .slice A m.nodes.length c] ∧ Blk wx (w.heap.size + 1) 24 #[.int .i64 m'.next, .slice A' m'.nodes.length c'] ∧ SameTo m.nodes m'.nodes k)
      case atStart => exact ⟨0, rfl, rfl, Nat.zero_le _, HB0.out, (Blk.new _ _ _).alloc _, Blk.new' (by simp), fun j _ _ hj => absurd hj (Nat.not_lt_zero _)⟩
      case round =>
        obtain ⟨k, rfl, rfl, hkk, hb, hmb, hnb, hS⟩ := hrel
        have HB := Lib.hid hb; have HM := Lib.hid hmb; have HN := Lib.hid hnb; have HS := Lib.hid hS
        have m1 := hmb.cell 1; have n1 := hnb.cell 1
        have hmlt := hmb.lt; have hnlt := hnb.lt
        have hsz := hb.size
        simp at m1 n1
        clear hmb hnb hS
        by_cases hlt : k < m.nodes.length
        · have hlt' : (k : Int) < m.nodes.length := by omega
          have k0 : (0 : Int) ≤ k := by omega
          have hk2 : k < m'.nodes.length := by have := HLL.out; omega
          have hk2' : (k : Int) < m'.nodes.length := by omega
          obtain ⟨b, off, Sp, cp, Sk, ck, Sr, cr, rfl, _, d0, d1, d2, d3, d4, d5, d6, ⟨q1, q2, hp⟩, ⟨q3, q4, hk⟩, ⟨q5, q6, hr⟩⟩ := node_at (RowOf.keep ENode.stays (Keep.below hb hF) (F' := F) (fun _ h => h) h) hlt
          obtain ⟨b', off', Sp', cp', Sk', ck', Sr', cr', rfl, _, d0', d1', d2', d3', d4', d5', d6', ⟨_, _, hp'⟩, ⟨_, _, hk''⟩, ⟨_, _, hr'⟩⟩ := node_at (RowOf.keep ENode.stays (Keep.below hb hF') (F' := F') (fun _ h => h) h') hk2
          have q7 : m.nodes[k].props.length ≤ 9223372036854775807 := by unfold maxLen at q2; omega
          have q8 : m.nodes[k].kids.length ≤ 9223372036854775807 := by unfold maxLen at q4; omega
          have q9 : m.nodes[k].refs.length ≤ 9223372036854775807 := by unfold maxLen at q6; omega
          have HC := Lib.hid (fun (w0 : World) (hb0 : Below wr.heap.size wr w0) => sameNode_any m.nodes[k] m'.nodes[k] Sp Sk Sr Sp' Sk' Sr' cp ck cr cp' ck' cr' w0 F F' (fun b hb' => by have := hF b hb'; have := hb0.size; omega) (fun b hb' => by have := hF' b hb'; have := hb0.size; omega)
            (hp.keep EProp.stays (Keep.below hb0 (fun b hb' => by have := hF b hb'; omega)) (fun _ h => h)) (hk.keep EInt.stays (Keep.below hb0 (fun b hb' => by have := hF b hb'; omega)) (fun _ h => h)) (hr.keep ERef.stays (Keep.below hb0 (fun b hb' => by have := hF b hb'; omega)) (fun _ h => h))
            (hp'.keep EProp.stays (Keep.below hb0 (fun b hb' => by have := hF' b hb'; omega)) (fun _ h => h)) (hk''.keep EInt.stays (Keep.below hb0 (fun b hb' => by have := hF' b hb'; omega)) (fun _ h => h)) (hr'.keep ERef.stays (Keep.below hb0 (fun b hb' => by have := hF' b hb'; omega)) (fun _ h => h)) q7 q8 q9)
          clear hb hp hk hr hp' hk'' hr' q1 q2 q3 q4 q5 q6 q7 q8 q9
          cases he : eqB m.nodes[k] m'.nodes[k]
          · have E := Lib.hid (eqB_no (x := m) (y := m') (fun e => ne_at hlt hk2 (fun e => by have := (eqB_is he).1 e; cases this) (by rw [e])))
            have HC2 := Lib.hid (fun w0 hb0 => res_is he (HC.out w0 hb0))
            clear he HC
            go_wp2_with fail
            have k1 := cell_regrown (m1)
            have j1 := cell_regrown (n1)
            have e0 := cell_regrown (d0)
            have e1 := cell_regrown (d1)
            have e2 := cell_regrown (d2)
            have e3 := cell_regrown (d3)
            have e4 := cell_regrown (d4)
            have e5 := cell_regrown (d5)
            have e6 := cell_regrown (d6)
            have f0 := cell_regrown (d0')
            have f1 := cell_regrown (d1')
            have f2 := cell_regrown (d2')
            have f3 := cell_regrown (d3')
            have f4 := cell_regrown (d4')
            have f5 := cell_regrown (d5')
            have f6 := cell_regrown (d6')
            have CW := Lib.hid (fun (d : Nat) (os : Array Obj) => Calls.regrown_of (w := wr) (d := d) (os := os) (HC2.out _ (below_regrown wr d os)))
            clear m1 n1 d0 d0' d1 d1' d2 d2' d3 d3' d4 d4' d5 d5' d6 d6'
            refine wp_region_quiet_below (by kernel_rfl) (by kernel_rfl) ?_
            repeat (first | go_big_quiet_step (exact CW.out _ _) | quiet_step (exact CW.out _ _))
            refine wpQuiet_nil ?_
            intro _ hw'
            obtain ⟨⟨dq, osq⟩, hw''⟩ := hw'
            subst hw''
            go_wp2
            go_ret
            exact ⟨by rw [E.out]; rfl, HB.out.trans ((below_regrown wr dq osq).mono hsz)⟩
          · have HE := Lib.hid ((eqB_is he).2 rfl)
            have HC2 := Lib.hid (fun w0 hb0 => res_is he (HC.out w0 hb0))
            clear he HC
            go_wp2_with fail
            have k1 := cell_regrown (m1)
            have j1 := cell_regrown (n1)
            have e0 := cell_regrown (d0)
            have e1 := cell_regrown (d1)
            have e2 := cell_regrown (d2)
            have e3 := cell_regrown (d3)
            have e4 := cell_regrown (d4)
            have e5 := cell_regrown (d5)
            have e6 := cell_regrown (d6)
            have f0 := cell_regrown (d0')
            have f1 := cell_regrown (d1')
            have f2 := cell_regrown (d2')
            have f3 := cell_regrown (d3')
            have f4 := cell_regrown (d4')
            have f5 := cell_regrown (d5')
            have f6 := cell_regrown (d6')
            have CW := Lib.hid (fun (d : Nat) (os : Array Obj) => Calls.regrown_of (w := wr) (d := d) (os := os) (HC2.out _ (below_regrown wr d os)))
            clear m1 n1 d0 d0' d1 d1' d2 d2' d3 d3' d4 d4' d5 d5' d6 d6'
            refine wp_region_quiet_below (by kernel_rfl) (by kernel_rfl) ?_
            repeat (first | go_big_quiet_step (exact CW.out _ _) | quiet_step (exact CW.out _ _))
            refine wpQuiet_nil ?_
            intro _ hw'
            obtain ⟨⟨dq, osq⟩, hw''⟩ := hw'
            subst hw''
            go_wp2
            go_roundg (m.nodes.length - (k + 1))
            case measure => omega
            case rel => exact ⟨k + 1, by go_num, rfl, by omega, HB.out.trans ((below_regrown wr dq osq).mono hsz), HM.out.below (below_regrown wr dq osq) hmlt, HN.out.below (below_regrown wr dq osq) hnlt, HS.out.next (fun _ _ => HE.out)⟩
        · have hlt' : decide ((k : Int) < m.nodes.length) = false := decide_eq_false (by omega)
          have E := Lib.hid (eqB_yes (model_ext HNX.out (HS.out.all HLL.out hlt)))
          clear hb
          go_wp2
          go_ret
          exact ⟨by rw [E.out]; rfl, HB.out⟩
    · have hll' : (((m.nodes.length : Nat) : Int) != m'.nodes.length) = true := by simp; omega
      have E := Lib.hid (eqB_no (x := m) (y := m') (fun e => hll (by rw [e])))
      clear hll
      go_enter Tryd.func8, Tryd.ntmps8
      go_wp2
      go_ret
      exact ⟨by rw [E.out]; rfl, HB0.out⟩
  · have E := Lib.hid (eqB_no (x := m) (y := m') (fun e => by subst e; simp at h1))
    go_enter Tryd.func8, Tryd.ntmps8
    go_wp2
    go_ret
    exact ⟨by rw [E.out]; rfl, HB0.out⟩
end Go.Proofs.YtpkapommekkbcaaDoor
