import Derived.Test.YtmafhaadcjgcbaaALentI
import Derived.Laws.StructEq
import Derived.Test.YtmafhaadcjgcbaaALent
set_option linter.unusedSimpArgs false
set_option linter.unusedVariables false
section
namespace Go.Proofs.Ytmafhaadcjgcbaa
open Go Go.RowKit

open Classical in
noncomputable def eqB {α : Type} (x y : α) : Bool := decide (x = y)
open Classical in
theorem eqB_no {α : Type} {x y : α} (h : x ≠ y) : eqB x y = false := decide_eq_false h
open Classical in
theorem eqB_yes {α : Type} {x y : α} (h : x = y) : eqB x y = true := decide_eq_true h
def SameTo {α : Type} (l l' : List α) (k : Nat) : Prop := ∀ j (h : j < l.length) (h' : j < l'.length), j < k → l[j] = l'[j]
theorem SameTo.next {α : Type} {l l' : List α} {k : Nat} (h : SameTo l l' k) (hk : ∀ (h : k < l.length) (h' : k < l'.length), l[k] = l'[k]) : SameTo l l' (k + 1) := fun j hj hj' hjk => by
  rcases Nat.lt_succ_iff_lt_or_eq.1 hjk with h1 | h1
  · exact h j hj hj' h1
  · subst h1; exact hk hj hj'
theorem SameTo.all {α : Type} {l l' : List α} {k : Nat} (h : SameTo l l' k) (hl : l.length = l'.length) (hk : ¬ k < l.length) : l = l' :=
  List.ext_getElem hl fun j h1 h2 => h j h1 h2 (by omega)
theorem ne_at {α : Type} {l l' : List α} {k : Nat} (h : k < l.length) (h' : k < l'.length) (hn : l[k] ≠ l'[k]) : l ≠ l' := fun e => hn (by subst e; rfl)
theorem ne_len {α : Type} {l l' : List α} (h : l.length ≠ l'.length) : l ≠ l' := fun e => h (by rw [e])

theorem ba_toList {a b : ByteArray} : a.toList = b.toList ↔ a = b := by
  rw [ByteArray.toList_eq, ByteArray.toList_eq]
  constructor
  · intro h
    obtain ⟨⟨x⟩⟩ := a
    obtain ⟨⟨y⟩⟩ := b
    simp at h; subst h; rfl
  · intro h; rw [h]
theorem eqGuard_struct (op : BinOp) (t : TypeId) (h : Try.prog.eqGuardType Try.prog.depth t = false) (a b : Operand) (xs ys : Array Value) (w : World) : Sem.run Try.prog (eqGuard op t a b (.agg xs) (.agg ys)) w = .ok () w := run_eqGuard_agg w op t a b xs ys h
theorem neq_prop (x y : AProp) (w : World) : Sem.run Try.prog (Go.binOp .neq 85 (.agg #[.string x.name, .string x.value]) (.agg #[.string y.name, .string y.value])) w = .ok (.bool (!(eqB x y))) w := by
  rw [run_neq_struct, run_equalIn_agg _ 9999 85 _ _ (by kernel_rfl) (by kernel_rfl)]
  simp only [Program.fieldsOf, Try.underlying85, Op.eqFields]
  simp only [go_sem]
  obtain ⟨a, b⟩ := x
  obtain ⟨a', b'⟩ := y
  by_cases h1 : a = a'
  · by_cases h2 : b = b'
    · rw [eqB_yes (by rw [h1, h2])]; simp [h1, h2, go_sem]
    · rw [eqB_no (fun e => h2 (by injection e))]; simp [h1, h2, go_sem, ba_toList]
  · rw [eqB_no (fun e => h1 (by injection e))]; simp [h1, go_sem, ba_toList]
theorem neq_ref (x y : ARef) (w : World) : Sem.run Try.prog (Go.binOp .neq 82 (.agg #[.string x.role, .int .i64 x.target]) (.agg #[.string y.role, .int .i64 y.target])) w = .ok (.bool (!(eqB x y))) w := by
  rw [run_neq_struct, run_equalIn_agg _ 9999 82 _ _ (by kernel_rfl) (by kernel_rfl)]
  simp only [Program.fieldsOf, Try.underlying82, Op.eqFields]
  simp only [go_sem]
  obtain ⟨a, b⟩ := x
  obtain ⟨a', b'⟩ := y
  by_cases h1 : a = a'
  · by_cases h2 : b = b'
    · rw [eqB_yes (by rw [h1, h2])]; simp [h1, h2, go_sem]
    · rw [eqB_no (fun e => h2 (by injection e))]; simp [h1, h2, go_sem, ba_toList]
  · rw [eqB_no (fun e => h1 (by injection e))]; simp [h1, go_sem, ba_toList]
set_option maxHeartbeats 800000 in
theorem ints_any (A A' : Option Addr) (c c' : Nat) (l l' : List Int) (w : World) (F F' : Nat → Prop) (h : RowOf 1 EInt w F A l) (h' : RowOf 1 EInt w F' A' l') (hl : l.length ≤ 9223372036854775807) :
    Calls Try.prog 31 #[.slice A l.length c, .slice A' l'.length c'] w fun e w' => e = .returned (.bool (eqB l l')) ∧ ∃ n, w' = w.drewN n := by
  by_cases hll : l.length = l'.length
  · have hll' : (((l.length : Nat) : Int) != l'.length) = false := by rw [hll]; simp
    have HLL := Lib.hid hll
    go_enter Try.func31, Try.ntmps31
    rw [← hll]
    clear hll hll'
    go_wp2
    go_loopg [5] l.length (fun g s13 wx => ∃ k : Nat, s13 = .int .i64 k ∧ g = l.length - k ∧ k ≤ l.length ∧ (∃ n, wx = w.drewN n) ∧ SameTo l l' k)
    case atStart => exact ⟨0, rfl, rfl, Nat.zero_le _, ⟨0, rfl⟩, fun j _ _ hj => absurd hj (Nat.not_lt_zero _)⟩
    case round =>
      obtain ⟨k, rfl, rfl, hkk, ⟨nd, rfl⟩, hS⟩ := hrel
      have HS := Lib.hid hS; clear hS
      by_cases hlt : k < l.length
      · have hlt' : (k : Int) < l.length := by omega
        have k0 : (0 : Int) ≤ k := by omega
        have hk' : k < l'.length := by have := HLL.out; omega
        obtain ⟨b, off, rfl, _, d0⟩ := int_at h hlt
        obtain ⟨b', off', rfl, _, d2⟩ := int_at h' hk'
        by_cases he : l[k] = l'[k]
        · have HE := Lib.hid he
          have heb : (l[k] != l'[k]) = false := bne_eq_false_iff_eq.2 he
          clear he
          go_wp2
          go_quiet (fail)
          go_wp2
          go_roundg (l.length - (k + 1))
          case measure => omega
          case rel => exact ⟨k + 1, by go_num, rfl, by omega, ⟨nd + nq, rfl⟩, HS.out.next (fun _ _ => HE.out)⟩
        · have E := Lib.hid (eqB_no (ne_at hlt hk' he))
          have heb : (l[k] != l'[k]) = true := bne_iff_ne.2 he
          clear he
          go_wp2
          go_quiet (fail)
          go_wp2
          go_ret
          exact ⟨by rw [E.out]; rfl, nd + nq, by rw [World.drewN_drewN]⟩
      · have hlt' : decide ((k : Int) < l.length) = false := decide_eq_false (by omega)
        have E := Lib.hid (eqB_yes (HS.out.all HLL.out hlt))
        go_wp2
        go_ret
        exact ⟨by rw [E.out]; rfl, nd, rfl⟩
  · have hll' : (((l.length : Nat) : Int) != l'.length) = true := by simp; omega
    have E := Lib.hid (eqB_no (ne_len hll))
    clear hll
    go_enter Try.func31, Try.ntmps31
    go_wp2
    go_ret
    exact ⟨by rw [E.out]; rfl, 0, rfl⟩
end Go.Proofs.Ytmafhaadcjgcbaa
end
section
namespace Go.Proofs.Ytmafhaadcjgcbaa
open Go Go.RowKit

theorem eq_is {f : FuncId} {args : Array Value} {w : World} {p b : Bool} (h : p = b) (hc : Calls Try.prog f args w fun e w' => e = .returned (.bool p) ∧ ∃ n, w' = w.drewN n) : Calls Try.prog f args w fun e w' => e = .returned (.bool b) ∧ ∃ n, w' = w.drewN n := by
  rw [h] at hc; exact hc
open Classical in
theorem eqB_is {α : Type} {x y : α} {b : Bool} (h : eqB x y = b) : x = y ↔ b = true := by rw [← h]; exact (decide_eq_true_iff).symm
theorem node_ext {a b : ANode} (h1 : a.id = b.id) (h2 : a.concept = b.concept) (h3 : a.parent = b.parent) (h4 : a.role = b.role) (h5 : a.props = b.props) (h6 : a.kids = b.kids) (h7 : a.refs = b.refs) : a = b := by
  cases a; cases b; simp at h1 h2 h3 h4 h5 h6 h7; subst h1 h2 h3 h4 h5 h6 h7; rfl
theorem ba_beq {a b : ByteArray} {x : Bool} (h : (a.toList == b.toList) = x) : a = b ↔ x = true := by
  rw [← h, beq_iff_eq, ba_toList]

theorem model_ext {a b : AModel} (h1 : a.next = b.next) (h2 : a.nodes = b.nodes) : a = b := by
  cases a; cases b; simp at h1 h2; subst h1 h2; rfl
end Go.Proofs.Ytmafhaadcjgcbaa
end
section
namespace Go.Proofs.Ytmafhaadcjgcbaa
open Go Go.RowKit

def HeadEq (a b : ANode) : Prop := a.id = b.id ∧ a.concept = b.concept ∧ a.parent = b.parent ∧ a.role = b.role ∧ a.props.length = b.props.length ∧ a.refs.length = b.refs.length
open Classical in
noncomputable def headEqB (a b : ANode) : Bool := decide (HeadEq a b)
open Classical in
theorem headEqB_no {a b : ANode} (h : ¬ HeadEq a b) : headEqB a b = false := decide_eq_false h
open Classical in
theorem headEqB_yes {a b : ANode} (h : HeadEq a b) : headEqB a b = true := decide_eq_true h
open Classical in
theorem headEqB_is {a b : ANode} {x : Bool} (h : headEqB a b = x) : HeadEq a b ↔ x = true := by rw [← h]; exact (decide_eq_true_iff).symm
theorem HeadEq.refl_of {a b : ANode} (e : a = b) : HeadEq a b := by subst e; exact ⟨rfl, rfl, rfl, rfl, rfl, rfl⟩

set_option maxRecDepth 100000 in
set_option maxHeartbeats 2000000 in
theorem sameNode_any (a b : ANode) (Sp Sk Sr Sp' Sk' Sr' : Option Addr) (cp ck cr cp' ck' cr' : Nat) (w : World) (F F' : Nat → Prop) (hF : ∀ b, F b → b < w.heap.size) (hF' : ∀ b, F' b → b < w.heap.size)
    (hp : RowOf 2 EProp w F Sp a.props) (hk : RowOf 1 EInt w F Sk a.kids) (hr : RowOf 2 ERef w F Sr a.refs) (hp' : RowOf 2 EProp w F' Sp' b.props) (hk' : RowOf 1 EInt w F' Sk' b.kids) (hr' : RowOf 2 ERef w F' Sr' b.refs)
    (lp : a.props.length ≤ 9223372036854775807) (lk : a.kids.length ≤ 9223372036854775807) (lr : a.refs.length ≤ 9223372036854775807) :
    Calls Try.prog 24 #[.agg #[.int .i64 a.id, .string a.concept, .int .i64 a.parent, .string a.role, .slice Sp a.props.length cp, .slice Sk a.kids.length ck, .slice Sr a.refs.length cr], .agg #[.int .i64 b.id, .string b.concept, .int .i64 b.parent, .string b.role, .slice Sp' b.props.length cp', .slice Sk' b.kids.length ck', .slice Sr' b.refs.length cr']] w fun e w' => e = .returned (.bool (eqB a b)) ∧ Below w.heap.size w w' := by
  have hneP := neq_prop
  have hneR := neq_ref
  have hgdP := eqGuard_struct (t := 85) (op := .neq) (h := by kernel_rfl)
  have hgdR := eqGuard_struct (t := 82) (op := .neq) (h := by kernel_rfl)
  go_enter Try.func24, Try.ntmps24
  go_upto_region 1 with fail
  go_cut [50] (fun s50 wx => s50 = .bool (!(headEqB a b)) ∧ Below w.heap.size w wx ∧ Blk wx w.heap.size 38 #[.int .i64 a.id, .string a.concept, .int .i64 a.parent, .string a.role, .slice Sp a.props.length cp, .slice Sk a.kids.length ck, .slice Sr a.refs.length cr] ∧ Blk wx (w.heap.size + 1) 38 #[.int .i64 b.id, .string b.concept, .int .i64 b.parent, .string b.role, .slice Sp' b.props.length cp', .slice Sk' b.kids.length ck', .slice Sr' b.refs.length cr'])
  case first => as_aux_lemma =>
    clear hneP hneR hgdP hgdR
    cases h1 : (a.id != b.id)
    · cases h2 : (a.concept.toList == b.concept.toList)
      · have E := Lib.hid (headEqB_no (a := a) (b := b) (fun e => by obtain ⟨e1, e2, e3, e4, e5, e6⟩ := e; simp [e1, e2, e3, e4, e5, e6] at h2))
        go_wp2
        go_meet
        case rel => exact ⟨by rw [E.out]; rfl, ((Below.refl _ _).alloc (Nat.le_refl _) _).alloc (by simp) _, (Blk.new _ _ _).alloc _, Blk.new' (by simp)⟩
      · cases h3 : (a.parent != b.parent)
        · cases h4 : (a.role.toList == b.role.toList)
          · have E := Lib.hid (headEqB_no (a := a) (b := b) (fun e => by obtain ⟨e1, e2, e3, e4, e5, e6⟩ := e; simp [e1, e2, e3, e4, e5, e6] at h4))
            go_wp2
            go_meet
            case rel => exact ⟨by rw [E.out]; rfl, ((Below.refl _ _).alloc (Nat.le_refl _) _).alloc (by simp) _, (Blk.new _ _ _).alloc _, Blk.new' (by simp)⟩
          · cases h5 : (((a.props.length : Nat) : Int) != b.props.length)
            · cases h6 : (((a.refs.length : Nat) : Int) != b.refs.length)
              · have E := Lib.hid (headEqB_yes (a := a) (b := b) ⟨bne_eq_false_iff_eq.1 h1, (ba_beq h2).2 rfl, bne_eq_false_iff_eq.1 h3, (ba_beq h4).2 rfl, by have := bne_eq_false_iff_eq.1 h5; omega, by have := bne_eq_false_iff_eq.1 h6; omega⟩)
                go_wp2
                go_meet
                case rel => exact ⟨by rw [E.out]; rfl, ((Below.refl _ _).alloc (Nat.le_refl _) _).alloc (by simp) _, (Blk.new _ _ _).alloc _, Blk.new' (by simp)⟩
              · have E := Lib.hid (headEqB_no (a := a) (b := b) (fun e => by obtain ⟨e1, e2, e3, e4, e5, e6⟩ := e; simp [e1, e2, e3, e4, e5, e6] at h6))
                go_wp2
                go_meet
                case rel => exact ⟨by rw [E.out]; rfl, ((Below.refl _ _).alloc (Nat.le_refl _) _).alloc (by simp) _, (Blk.new _ _ _).alloc _, Blk.new' (by simp)⟩
            · have E := Lib.hid (headEqB_no (a := a) (b := b) (fun e => by obtain ⟨e1, e2, e3, e4, e5, e6⟩ := e; simp [e1, e2, e3, e4, e5, e6] at h5))
              go_wp2
              go_meet
              case rel => exact ⟨by rw [E.out]; rfl, ((Below.refl _ _).alloc (Nat.le_refl _) _).alloc (by simp) _, (Blk.new _ _ _).alloc _, Blk.new' (by simp)⟩
        · have E := Lib.hid (headEqB_no (a := a) (b := b) (fun e => by obtain ⟨e1, e2, e3, e4, e5, e6⟩ := e; simp [e1, e2, e3, e4, e5, e6] at h3))
          go_wp2
          go_meet
          case rel => exact ⟨by rw [E.out]; rfl, ((Below.refl _ _).alloc (Nat.le_refl _) _).alloc (by simp) _, (Blk.new _ _ _).alloc _, Blk.new' (by simp)⟩
    · have E := Lib.hid (headEqB_no (a := a) (b := b) (fun e => by obtain ⟨e1, e2, e3, e4, e5, e6⟩ := e; simp [e1, e2, e3, e4, e5, e6] at h1))
      go_wp2
      go_meet
      case rel => exact ⟨by rw [E.out]; rfl, ((Below.refl _ _).alloc (Nat.le_refl _) _).alloc (by simp) _, (Blk.new _ _ _).alloc _, Blk.new' (by simp)⟩
  case rest => as_aux_lemma =>
    obtain ⟨rfl, hb, hmb, hnb⟩ := hcut
    have HB := Lib.hid hb; have HM := Lib.hid hmb; have HN := Lib.hid hnb
    clear hb hmb hnb
    cases hh : headEqB a b
    · have E := Lib.hid (eqB_no (x := a) (y := b) (fun e => by have := (headEqB_is hh).1 (HeadEq.refl_of e); cases this))
      clear hh
      go_wp2
      go_ret
      exact ⟨by rw [E.out]; rfl, HB.out⟩
    · have HH := Lib.hid ((headEqB_is hh).2 rfl)
      have HLprops := Lib.hid HH.out.2.2.2.2.1
      have HLrefs := Lib.hid HH.out.2.2.2.2.2
      clear hh
      go_wp2_with fail
      go_loopg [5] a.props.length (fun g s5 wx => ∃ k : Nat, s5 = .int .i64 k ∧ g = a.props.length - k ∧ k ≤ a.props.length ∧ Below w.heap.size w wx ∧ Blk wx w.heap.size 38 #[.int .i64 a.id, .string a.concept, .int .i64 a.parent, .string a.role, .slice Sp a.props.length cp, .slice Sk a.kids.length ck, .slice Sr a.refs.length cr] ∧ Blk wx (w.heap.size + 1) 38 #[.int .i64 b.id, .string b.concept, .int .i64 b.parent, .string b.role, .slice Sp' b.props.length cp', .slice Sk' b.kids.length ck', .slice Sr' b.refs.length cr'] ∧ SameTo a.props b.props k)
      case atStart => exact ⟨0, rfl, rfl, Nat.zero_le _, HB.out, HM.out, HN.out, fun j _ _ hj => absurd hj (Nat.not_lt_zero _)⟩
      case round =>
        clear HB HM HN
        obtain ⟨k, rfl, rfl, hkk, hb, hmb, hnb, hS⟩ := hrel
        have HB := Lib.hid hb; have HM := Lib.hid hmb; have HN := Lib.hid hnb; have HS := Lib.hid hS
        have m4 := hmb.cell 4; have n4 := hnb.cell 4
        have hmlt := hmb.lt; have hnlt := hnb.lt
        simp at m4 n4
        clear hmb hnb hS
        by_cases hlt : k < a.props.length
        · have hlt' : (k : Int) < a.props.length := by omega
          have k0 : (0 : Int) ≤ k := by omega
          have hk2 : k < b.props.length := by have := HLprops.out; omega
          have hk2' : (k : Int) < b.props.length := by omega
          obtain ⟨b1, off, rfl, _, d0, d1⟩ := prop_at (RowOf.keep EProp.stays (Keep.below hb hF) (F' := F) (fun _ h => h) hp) hlt
          obtain ⟨b2, off', rfl, _, d2, d3⟩ := prop_at (RowOf.keep EProp.stays (Keep.below hb hF') (F' := F') (fun _ h => h) hp') hk2
          clear hb
          by_cases he : a.props[k] = b.props[k]
          · have HE := Lib.hid he
            have heb := eqB_yes he
            clear he
            go_wp2
            go_quiet (fail)
            go_wp2
            go_roundg (a.props.length - (k + 1))
            case measure => omega
            case rel => exact ⟨k + 1, by go_num, rfl, by omega, below_drewN HB.out _, HM.out.drewN _, HN.out.drewN _, HS.out.next (fun _ _ => HE.out)⟩
          · have E := Lib.hid (eqB_no (x := a) (y := b) (fun e => ne_at hlt hk2 he (by rw [e])))
            have heb := eqB_no he
            clear he
            go_wp2
            go_quiet (fail)
            go_wp2
            go_ret
            exact ⟨by rw [E.out]; rfl, below_drewN HB.out _⟩
        · have hlt' : decide ((k : Int) < a.props.length) = false := decide_eq_false (by omega)
          have HEprops := Lib.hid (HS.out.all HLprops.out hlt)
          clear hb
          go_wp2_with fail
          obtain ⟨wp, rfl⟩ : ∃ wp : World, wp = wr := ⟨_, rfl⟩
          clear HS m4 n4 hmlt hnlt hkk hlt hlt'
          go_loopg [6] a.refs.length (fun g s5 wx => ∃ k : Nat, s5 = .int .i64 k ∧ g = a.refs.length - k ∧ k ≤ a.refs.length ∧ Below w.heap.size w wx ∧ Blk wx w.heap.size 38 #[.int .i64 a.id, .string a.concept, .int .i64 a.parent, .string a.role, .slice Sp a.props.length cp, .slice Sk a.kids.length ck, .slice Sr a.refs.length cr] ∧ Blk wx (w.heap.size + 1) 38 #[.int .i64 b.id, .string b.concept, .int .i64 b.parent, .string b.role, .slice Sp' b.props.length cp', .slice Sk' b.kids.length ck', .slice Sr' b.refs.length cr'] ∧ SameTo a.refs b.refs k)
          case atStart => exact ⟨0, rfl, rfl, Nat.zero_le _, HB.out, HM.out, HN.out, fun j _ _ hj => absurd hj (Nat.not_lt_zero _)⟩
          case round =>
            clear HB HM HN
            obtain ⟨k, rfl, rfl, hkk, hb, hmb, hnb, hS⟩ := hrel
            have HB := Lib.hid hb; have HM := Lib.hid hmb; have HN := Lib.hid hnb; have HS := Lib.hid hS
            have m4 := hmb.cell 6; have n4 := hnb.cell 6
            have hmlt := hmb.lt; have hnlt := hnb.lt
            simp at m4 n4
            clear hmb hnb hS
            by_cases hlt : k < a.refs.length
            · have hlt' : (k : Int) < a.refs.length := by omega
              have k0 : (0 : Int) ≤ k := by omega
              have hk2 : k < b.refs.length := by have := HLrefs.out; omega
              have hk2' : (k : Int) < b.refs.length := by omega
              obtain ⟨b1, off, rfl, _, d0, d1⟩ := ref_at (RowOf.keep ERef.stays (Keep.below hb hF) (F' := F) (fun _ h => h) hr) hlt
              obtain ⟨b2, off', rfl, _, d2, d3⟩ := ref_at (RowOf.keep ERef.stays (Keep.below hb hF') (F' := F') (fun _ h => h) hr') hk2
              clear hb
              by_cases he : a.refs[k] = b.refs[k]
              · have HE := Lib.hid he
                have heb := eqB_yes he
                clear he
                go_wp2
                go_quiet (fail)
                go_wp2
                go_roundg (a.refs.length - (k + 1))
                case measure => omega
                case rel => exact ⟨k + 1, by go_num, rfl, by omega, below_drewN HB.out _, HM.out.drewN _, HN.out.drewN _, HS.out.next (fun _ _ => HE.out)⟩
              · have E := Lib.hid (eqB_no (x := a) (y := b) (fun e => ne_at hlt hk2 he (by rw [e])))
                have heb := eqB_no he
                clear he
                go_wp2
                go_quiet (fail)
                go_wp2
                go_ret
                exact ⟨by rw [E.out]; rfl, below_drewN HB.out _⟩
            · have hlt' : decide ((k : Int) < a.refs.length) = false := decide_eq_false (by omega)
              have HErefs := Lib.hid (HS.out.all HLrefs.out hlt)
              clear hb
              have m5 := HM.out.cell 5; have n5 := HN.out.cell 5
              simp at m5 n5
              have HC := Lib.hid (ints_any Sk Sk' ck ck' a.kids b.kids wr F F' (hk.keep EInt.stays (Keep.below HB.out hF) (fun _ h => h)) (hk'.keep EInt.stays (Keep.below HB.out hF') (fun _ h => h)) lk)
              cases he : eqB a.kids b.kids
              · have HC2 := Lib.hid (eq_is he HC.out)
                have E := Lib.hid (eqB_no (x := a) (y := b) (fun e => by have := (eqB_is he).1 (by rw [e]); cases this))
                clear he HC
                go_wp2_with fail
                refine HC2.out.mono ?_
                rintro _ _ ⟨rfl, n, rfl⟩
                go_wp2
                go_ret
                exact ⟨by rw [E.out]; rfl, below_drewN HB.out _⟩
              · have HC2 := Lib.hid (eq_is he HC.out)
                have E := Lib.hid (eqB_yes (x := a) (y := b) (node_ext HH.out.1 HH.out.2.1 HH.out.2.2.1 HH.out.2.2.2.1 HEprops.out ((eqB_is he).2 rfl) HErefs.out))
                clear he HC
                go_wp2_with fail
                refine HC2.out.mono ?_
                rintro _ _ ⟨rfl, n, rfl⟩
                go_wp2
                go_ret
                exact ⟨by rw [E.out]; rfl, below_drewN HB.out _⟩

set_option maxRecDepth 100000 in
set_option maxHeartbeats 2000000 in
theorem same_any (A A' : Option Addr) (c c' : Nat) (m m' : AModel) (w : World) (F F' : Nat → Prop) (hF : ∀ b, F b → b < w.heap.size) (hF' : ∀ b, F' b → b < w.heap.size) (h : RowOf 7 ENode w F A m.nodes) (h' : RowOf 7 ENode w F' A' m'.nodes) (hl : m.nodes.length ≤ 9223372036854775807) :
    Calls Try.prog 19 #[.agg #[.int .i64 m.next, .slice A m.nodes.length c], .agg #[.int .i64 m'.next, .slice A' m'.nodes.length c']] w fun e w' => e = .returned (.bool (eqB m m')) ∧ Below w.heap.size w w' := by
  have HB0 := Lib.hid (((Below.refl w.heap.size w).alloc (Nat.le_refl _) (.cells #[.int .i64 m.next, .slice A m.nodes.length c] 24)).alloc (by simp) (.cells #[.int .i64 m'.next, .slice A' m'.nodes.length c'] 24))
  cases h1 : (m.next != m'.next)
  · by_cases hll : m.nodes.length = m'.nodes.length
    · have hll' : (((m.nodes.length : Nat) : Int) != m'.nodes.length) = false := by rw [hll]; simp
      have HLL := Lib.hid hll
      have HNX := Lib.hid (bne_eq_false_iff_eq.1 h1)
      clear hll
      go_enter Try.func19, Try.ntmps19
      go_wp2_with fail
      clear h1 hll'
      go_loopg [5] m.nodes.length (fun g s5 wx => ∃ k : Nat, s5 = .int .i64 k ∧ g = m.nodes.length - k ∧ k ≤ m.nodes.length ∧ Below w.heap.size w wx ∧ Blk wx w.heap.size 24 #[.int .i64 m.next, .slice A m.nodes.length c] ∧ Blk wx (w.heap.size + 1) 24 #[.int .i64 m'.next, .slice A' m'.nodes.length c'] ∧ SameTo m.nodes m'.nodes k)
      case atStart => exact ⟨0, rfl, rfl, Nat.zero_le _, HB0.out, (Blk.new _ _ _).alloc _, Blk.new' (by simp), fun j _ _ hj => absurd hj (Nat.not_lt_zero _)⟩
      case round =>
        obtain ⟨k, rfl, rfl, hkk, hb, hmb, hnb, hS⟩ := hrel
        have HB := Lib.hid hb; have HM := Lib.hid hmb; have HN := Lib.hid hnb; have HS := Lib.hid hS
        have m1 := hmb.cell 1; have n1 := hnb.cell 1
        have hmlt := hmb.lt; have hnlt := hnb.lt
        have hsz := hb.size
        simp at m1 n1
        clear hmb hnb hS
        by_cases hlt : k < m.nodes.length
        · have hlt' : (k : Int) < m.nodes.length := by omega
          have k0 : (0 : Int) ≤ k := by omega
          have hk2 : k < m'.nodes.length := by have := HLL.out; omega
          have hk2' : (k : Int) < m'.nodes.length := by omega
          obtain ⟨b, off, Sp, cp, Sk, ck, Sr, cr, rfl, _, d0, d1, d2, d3, d4, d5, d6, ⟨q1, q2, hp⟩, ⟨q3, q4, hk⟩, ⟨q5, q6, hr⟩⟩ := node_at (RowOf.keep ENode.stays (Keep.below hb hF) (F' := F) (fun _ h => h) h) hlt
          obtain ⟨b', off', Sp', cp', Sk', ck', Sr', cr', rfl, _, d0', d1', d2', d3', d4', d5', d6', ⟨_, _, hp'⟩, ⟨_, _, hk''⟩, ⟨_, _, hr'⟩⟩ := node_at (RowOf.keep ENode.stays (Keep.below hb hF') (F' := F') (fun _ h => h) h') hk2
          have q7 : m.nodes[k].props.length ≤ 9223372036854775807 := by unfold maxLen at q2; omega
          have q8 : m.nodes[k].kids.length ≤ 9223372036854775807 := by unfold maxLen at q4; omega
          have q9 : m.nodes[k].refs.length ≤ 9223372036854775807 := by unfold maxLen at q6; omega
          have HC := Lib.hid (fun (w0 : World) (hb0 : Below wr.heap.size wr w0) => sameNode_any m.nodes[k] m'.nodes[k] Sp Sk Sr Sp' Sk' Sr' cp ck cr cp' ck' cr' w0 F F' (fun b hb' => by have := hF b hb'; have := hb0.size; omega) (fun b hb' => by have := hF' b hb'; have := hb0.size; omega)
            (hp.keep EProp.stays (Keep.below hb0 (fun b hb' => by have := hF b hb'; omega)) (fun _ h => h)) (hk.keep EInt.stays (Keep.below hb0 (fun b hb' => by have := hF b hb'; omega)) (fun _ h => h)) (hr.keep ERef.stays (Keep.below hb0 (fun b hb' => by have := hF b hb'; omega)) (fun _ h => h))
            (hp'.keep EProp.stays (Keep.below hb0 (fun b hb' => by have := hF' b hb'; omega)) (fun _ h => h)) (hk''.keep EInt.stays (Keep.below hb0 (fun b hb' => by have := hF' b hb'; omega)) (fun _ h => h)) (hr'.keep ERef.stays (Keep.below hb0 (fun b hb' => by have := hF' b hb'; omega)) (fun _ h => h)) q7 q8 q9)
          clear hb hp hk hr hp' hk'' hr' q1 q2 q3 q4 q5 q6 q7 q8 q9
          cases he : eqB m.nodes[k] m'.nodes[k]
          · have E := Lib.hid (eqB_no (x := m) (y := m') (fun e => ne_at hlt hk2 (fun e => by have := (eqB_is he).1 e; cases this) (by rw [e])))
            have HC2 := Lib.hid (fun w0 hb0 => res_is he (HC.out w0 hb0))
            clear he HC
            go_wp2_with fail
            have k1 := cell_regrown (m1)
            have j1 := cell_regrown (n1)
            have e0 := cell_regrown (d0)
            have e1 := cell_regrown (d1)
            have e2 := cell_regrown (d2)
            have e3 := cell_regrown (d3)
            have e4 := cell_regrown (d4)
            have e5 := cell_regrown (d5)
            have e6 := cell_regrown (d6)
            have f0 := cell_regrown (d0')
            have f1 := cell_regrown (d1')
            have f2 := cell_regrown (d2')
            have f3 := cell_regrown (d3')
            have f4 := cell_regrown (d4')
            have f5 := cell_regrown (d5')
            have f6 := cell_regrown (d6')
            have CW := Lib.hid (fun (d : Nat) (os : Array Obj) => Calls.regrown_of (w := wr) (d := d) (os := os) (HC2.out _ (below_regrown wr d os)))
            clear m1 n1 d0 d0' d1 d1' d2 d2' d3 d3' d4 d4' d5 d5' d6 d6'
            refine wp_region_quiet_below (by kernel_rfl) (by kernel_rfl) ?_
            repeat (first | go_big_quiet_step (exact CW.out _ _) | quiet_step (exact CW.out _ _))
            refine wpQuiet_nil ?_
            intro _ hw'
            obtain ⟨⟨dq, osq⟩, hw''⟩ := hw'
            subst hw''
            go_wp2
            go_ret
            exact ⟨by rw [E.out]; rfl, HB.out.trans ((below_regrown wr dq osq).mono hsz)⟩
          · have HE := Lib.hid ((eqB_is he).2 rfl)
            have HC2 := Lib.hid (fun w0 hb0 => res_is he (HC.out w0 hb0))
            clear he HC
            go_wp2_with fail
            have k1 := cell_regrown (m1)
            have j1 := cell_regrown (n1)
            have e0 := cell_regrown (d0)
            have e1 := cell_regrown (d1)
            have e2 := cell_regrown (d2)
            have e3 := cell_regrown (d3)
            have e4 := cell_regrown (d4)
            have e5 := cell_regrown (d5)
            have e6 := cell_regrown (d6)
            have f0 := cell_regrown (d0')
            have f1 := cell_regrown (d1')
            have f2 := cell_regrown (d2')
            have f3 := cell_regrown (d3')
            have f4 := cell_regrown (d4')
            have f5 := cell_regrown (d5')
            have f6 := cell_regrown (d6')
            have CW := Lib.hid (fun (d : Nat) (os : Array Obj) => Calls.regrown_of (w := wr) (d := d) (os := os) (HC2.out _ (below_regrown wr d os)))
            clear m1 n1 d0 d0' d1 d1' d2 d2' d3 d3' d4 d4' d5 d5' d6 d6'
            refine wp_region_quiet_below (by kernel_rfl) (by kernel_rfl) ?_
            repeat (first | go_big_quiet_step (exact CW.out _ _) | quiet_step (exact CW.out _ _))
            refine wpQuiet_nil ?_
            intro _ hw'
            obtain ⟨⟨dq, osq⟩, hw''⟩ := hw'
            subst hw''
            go_wp2
            go_roundg (m.nodes.length - (k + 1))
            case measure => omega
            case rel => exact ⟨k + 1, by go_num, rfl, by omega, HB.out.trans ((below_regrown wr dq osq).mono hsz), HM.out.below (below_regrown wr dq osq) hmlt, HN.out.below (below_regrown wr dq osq) hnlt, HS.out.next (fun _ _ => HE.out)⟩
        · have hlt' : decide ((k : Int) < m.nodes.length) = false := decide_eq_false (by omega)
          have E := Lib.hid (eqB_yes (model_ext HNX.out (HS.out.all HLL.out hlt)))
          clear hb
          go_wp2
          go_ret
          exact ⟨by rw [E.out]; rfl, HB.out⟩
    · have hll' : (((m.nodes.length : Nat) : Int) != m'.nodes.length) = true := by simp; omega
      have E := Lib.hid (eqB_no (x := m) (y := m') (fun e => hll (by rw [e])))
      clear hll
      go_enter Try.func19, Try.ntmps19
      go_wp2
      go_ret
      exact ⟨by rw [E.out]; rfl, HB0.out⟩
  · have E := Lib.hid (eqB_no (x := m) (y := m') (fun e => by subst e; simp at h1))
    go_enter Try.func19, Try.ntmps19
    go_wp2
    go_ret
    exact ⟨by rw [E.out]; rfl, HB0.out⟩
end Go.Proofs.Ytmafhaadcjgcbaa
end
section
namespace Go.Proofs.Ytmafhaadcjgcbaa
open Go Go.RowKit

/-- a node that is lent, in a row: its cells, its lists, their marks -/
theorem nodeM_at {w : World} {F : Nat → Prop} {A : Option Addr} {l : List ANode} (h : RowOf 7 ENodeM w F A l) {i : Nat} (hi : i < l.length) :
    ∃ b off bp op cp bk ok ck br or cr, A = some ⟨b, off, none⟩ ∧ F b ∧
      w.cell? ⟨b, off + i * 7, none⟩ = some (.int .i64 l[i].id) ∧ w.cell? ⟨b, off + i * 7 + 1, none⟩ = some (.string l[i].concept) ∧
      w.cell? ⟨b, off + i * 7 + 2, none⟩ = some (.int .i64 l[i].parent) ∧ w.cell? ⟨b, off + i * 7 + 3, none⟩ = some (.string l[i].role) ∧
      w.cell? ⟨b, off + i * 7 + 4, none⟩ = some (.slice (some ⟨bp, op, none⟩) l[i].props.length cp) ∧ w.cell? ⟨b, off + i * 7 + 5, none⟩ = some (.slice (some ⟨bk, ok, none⟩) l[i].kids.length ck) ∧
      w.cell? ⟨b, off + i * 7 + 6, none⟩ = some (.slice (some ⟨br, or, none⟩) l[i].refs.length cr) ∧
      (l[i].props.length < cp ∧ cp ≤ maxLen ∧ F bp ∧ w.cell? ⟨bp, op + l[i].props.length * 2, none⟩ = some markStr) ∧ (l[i].kids.length < ck ∧ ck ≤ maxLen ∧ F bk ∧ w.cell? ⟨bk, ok + l[i].kids.length, none⟩ = some (.int .i64 (-7))) ∧ (l[i].refs.length < cr ∧ cr ≤ maxLen ∧ F br ∧ w.cell? ⟨br, or + l[i].refs.length * 2, none⟩ = some markStr) := by
  obtain ⟨b, off, rfl, hb⟩ := h.1 (by intro hn; subst hn; simp at hi)
  obtain ⟨cs, _, ⟨vp, vk, vr, hx, ⟨_, cp, rfl, p1, p2, p3, bp, op, rfl, p5, p6⟩, ⟨_, ck, rfl, k1, k2, k3, bk, ok, rfl, k5, k6⟩, ⟨_, cr, rfl, r1, r2, r3, br, or, rfl, r5, r6⟩⟩, hc⟩ := h.2 i hi
  have hc := hc b off rfl
  subst hx
  exact ⟨b, off, bp, op, cp, bk, ok, ck, br, or, cr, rfl, hb, hc 0 (by omega), hc 1 (by omega), hc 2 (by omega), hc 3 (by omega), hc 4 (by omega), hc 5 (by omega), hc 6 (by omega), ⟨p1, p2, p5, p6⟩, ⟨k1, k2, k5, by simpa using k6⟩, ⟨r1, r2, r5, r6⟩⟩

set_option maxRecDepth 100000 in
set_option maxHeartbeats 2000000 in
/-- a lent model is as it was -/
theorem kept_any (v v' : Value) (m : AModel) (w : World) (F F' : Nat → Prop) (hF : ∀ b, F b → b < w.heap.size) (hF' : ∀ b, F' b → b < w.heap.size) (h : IsModelM w F v m) (h' : IsModel w F' v' m) (hl : m.nodes.length ≤ 300) :
    Calls Try.prog 20 #[v, v'] w fun e w' => e = .returned (.bool true) ∧ Below w.heap.size w w' := by
  obtain ⟨_, rfl, A, c, rfl, hc1, hc2, hrow, b, off, rfl, hbF, hmark⟩ := h
  obtain ⟨_, rfl, A', c', rfl, hc1', hc2', hrow'⟩ := h'
  have hplain : RowOf 7 ENode w F (some ⟨b, off, none⟩) m.nodes := hrow.imp fun _ _ h => h.plain
  have HB0 := Lib.hid (((Below.refl w.heap.size w).alloc (Nat.le_refl _) (.cells #[.int .i64 m.next, .slice (some ⟨b, off, none⟩) m.nodes.length c] 24)).alloc (by simp) (.cells #[.int .i64 m.next, .slice A' m.nodes.length c'] 24))
  have HSM := Lib.hid (fun (w0 : World) (hb0 : Below w.heap.size w w0) => res_is (eqB_yes (rfl : m = m)) (same_any (some ⟨b, off, none⟩) A' c c' m m w0 F F' (fun b hb' => by have := hF b hb'; have := hb0.size; omega) (fun b hb' => by have := hF' b hb'; have := hb0.size; omega) (hplain.keep ENode.stays (Keep.below hb0 hF) (fun _ h => h)) (hrow'.keep ENode.stays (Keep.below hb0 hF') (fun _ h => h)) (by omega)))
  unfold maxLen at hc2
  have hbw := hF _ hbF
  have g1 : IntKind.i64.wrap ((m.nodes.length : Int) + 1) = m.nodes.length + 1 := IntWalk.i64_in _ ⟨by omega, by omega⟩
  have g2 : (m.nodes.length : Int) + 1 ≤ c := by omega
  have g3 : (0 : Int) ≤ (m.nodes.length : Int) + 1 := by omega
  have g4 : ((m.nodes.length : Int) + 1).toNat = m.nodes.length + 1 := by omega
  have g5 : (m.nodes.length : Int) < ((m.nodes.length + 1 : Nat) : Int) := by omega
  have g6 : m.nodes.length + 1 ≤ c := by omega
  go_enter Try.func20, Try.ntmps20
  go_wp2_with fail
  obtain ⟨v, hv⟩ : ∃ v : World, (w.alloc (.cells #[.int .i64 m.next, .slice (some ⟨b, off, none⟩) m.nodes.length c] 24)).alloc (.cells #[.int .i64 m.next, .slice A' m.nodes.length c'] 24) = v := ⟨_, rfl⟩
  have HBV : Hid (Below w.heap.size w v) := Lib.hid (by rw [← hv]; exact HB0.out)
  have HM : Hid (Blk v w.heap.size 24 #[.int .i64 m.next, .slice (some ⟨b, off, none⟩) m.nodes.length c]) := Lib.hid (by rw [← hv]; exact (Blk.new _ _ _).alloc _)
  have HN : Hid (Blk v (w.heap.size + 1) 24 #[.int .i64 m.next, .slice A' m.nodes.length c']) := Lib.hid (by rw [← hv]; exact Blk.new' (by simp))
  rw [hv]
  clear hv HB0
  have m0 := HM.out.cell 0; have m1 := HM.out.cell 1; have n0 := HN.out.cell 0; have n1 := HN.out.cell 1
  have hmlt := HM.out.lt; have hnlt := HN.out.lt
  simp at m0 m1 n0 n1
  have hmk := (HBV.out.cell (p := ⟨b, off + m.nodes.length * 7, none⟩) hbw).trans hmark
  clear hmark hplain
  have k0 := cell_regrown (m0)
  have k1 := cell_regrown (m1)
  have j0 := cell_regrown (n0)
  have j1 := cell_regrown (n1)
  have k2 := cell_regrown (hmk)
  have CW := Lib.hid (fun (d : Nat) (os : Array Obj) => Calls.regrown_of (w := v) (d := d) (os := os) (HSM.out _ (HBV.out.trans ((below_regrown v d os).mono HBV.out.size))))
  clear m0 m1 n0 n1 hmk
  refine wp_region_quiet_below (by kernel_rfl) (by kernel_rfl) ?_
  repeat (first | go_big_quiet_step (exact CW.out _ _) | quiet_step (exact CW.out _ _))
  refine wpQuiet_nil ?_
  intro _ hw'
  obtain ⟨⟨dq, osq⟩, hw''⟩ := hw'
  subst hw''
  have HB1 := Lib.hid (HBV.out.trans ((below_regrown v dq osq).mono HBV.out.size))
  have HM1 := Lib.hid (HM.out.below (below_regrown v dq osq) hmlt)
  clear HBV HM HN HSM k0 k1 j0 j1 k2
  go_wp2_with fail
  go_loopg [5] m.nodes.length (fun g s5 wx => ∃ i : Nat, s5 = .int .i64 i ∧ g = m.nodes.length - i ∧ i ≤ m.nodes.length ∧ Below w.heap.size w wx ∧ Blk wx w.heap.size 24 #[.int .i64 m.next, .slice (some ⟨b, off, none⟩) m.nodes.length c])
  case atStart => exact ⟨0, rfl, rfl, Nat.zero_le _, HB1.out, HM1.out⟩
  case round =>
    clear HB1 HM1
    obtain ⟨i, rfl, rfl, hil, hb, hmb⟩ := hrel
    have HB := Lib.hid hb; have HM := Lib.hid hmb
    have m1 := hmb.cell 1
    have hmlt := hmb.lt
    have hsz := hb.size
    simp at m1
    clear hmb
    by_cases hlt : i < m.nodes.length
    · have hlt' : (i : Int) < m.nodes.length := by omega
      have i0 : (0 : Int) ≤ i := by omega
      obtain ⟨b1, off1, bp, op, cp, bk, ok, ck, br, or, cr, e', _, d0, d1, d2, d3, d4, d5, d6, ⟨p1, p2, p3, p4⟩, ⟨k1, k2, k3, k4⟩, ⟨r1, r2, r3, r4⟩⟩ := nodeM_at (hrow.keep ENodeM.stays (Keep.below hb hF) (F' := F) (fun _ h => h)) hlt
      injection e' with e'
      injection e' with e1 e2
      subst e1; subst e2
      have hbp := Nat.lt_of_lt_of_le (hF _ p3) hsz; have hbk := Nat.lt_of_lt_of_le (hF _ k3) hsz; have hbr := Nat.lt_of_lt_of_le (hF _ r3) hsz
      unfold maxLen at p2 k2 r2
      generalize hn : m.nodes[i] = n at *
      have x1 : IntKind.i64.wrap ((n.props.length : Int) + 1) = n.props.length + 1 := IntWalk.i64_in _ ⟨by omega, by omega⟩
      have y1 : IntKind.i64.wrap ((n.kids.length : Int) + 1) = n.kids.length + 1 := IntWalk.i64_in _ ⟨by omega, by omega⟩
      have z1 : IntKind.i64.wrap ((n.refs.length : Int) + 1) = n.refs.length + 1 := IntWalk.i64_in _ ⟨by omega, by omega⟩
      have x2 : (n.props.length : Int) + 1 ≤ cp := by omega
      have y2 : (n.kids.length : Int) + 1 ≤ ck := by omega
      have z2 : (n.refs.length : Int) + 1 ≤ cr := by omega
      have x3 : (0 : Int) ≤ (n.props.length : Int) + 1 := by omega
      have y3 : (0 : Int) ≤ (n.kids.length : Int) + 1 := by omega
      have z3 : (0 : Int) ≤ (n.refs.length : Int) + 1 := by omega
      have x4 : ((n.props.length : Int) + 1).toNat = n.props.length + 1 := by omega
      have y4 : ((n.kids.length : Int) + 1).toNat = n.kids.length + 1 := by omega
      have z4 : ((n.refs.length : Int) + 1).toNat = n.refs.length + 1 := by omega
      have x5 : (n.props.length : Int) < ((n.props.length + 1 : Nat) : Int) := by omega
      have y5 : (n.kids.length : Int) < ((n.kids.length + 1 : Nat) : Int) := by omega
      have z5 : (n.refs.length : Int) < ((n.refs.length + 1 : Nat) : Int) := by omega
      have x6 : n.props.length + 1 ≤ cp := by omega
      have y6 : n.kids.length + 1 ≤ ck := by omega
      have z6 : n.refs.length + 1 ≤ cr := by omega
      clear hb hrow' hn p1 k1 r1 g1 g2 g3 g4 g5 g6
      unfold markStr at p4 r4
      go_wp2_with fail
      go_quiet (fail)
      go_wp2
      go_roundg (m.nodes.length - (i + 1))
      case measure => omega
      case rel => exact ⟨i + 1, by go_num, rfl, by omega, below_drewN (HB.out.alloc hsz _) _, (HM.out.alloc _).drewN _⟩
    · have hlt' : decide ((i : Int) < m.nodes.length) = false := decide_eq_false (by omega)
      clear hb
      go_wp2
      go_ret
      exact ⟨rfl, HB.out⟩
end Go.Proofs.Ytmafhaadcjgcbaa
end
