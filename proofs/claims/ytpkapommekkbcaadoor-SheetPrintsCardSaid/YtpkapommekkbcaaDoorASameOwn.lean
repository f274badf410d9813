import Derived.Test.YtpkapommekkbcaaDoorALentI
import Derived.Laws.StructEq
set_option linter.unusedSimpArgs false
set_option linter.unusedVariables false
section
namespace Go.Proofs.YtpkapommekkbcaaDoor
open Go Go.RowKit

open Classical in
noncomputable def eqB {α : Type} (x y : α) : Bool := decide (x = y)
open Classical in
theorem eqB_no {α : Type} {x y : α} (h : x ≠ y) : eqB x y = false := decide_eq_false h
open Classical in
theorem eqB_yes {α : Type} {x y : α} (h : x = y) : eqB x y = true := decide_eq_true h
def SameTo {α : Type} (l l' : List α) (k : Nat) : Prop := ∀ j (h : j < l.length) (h' : j < l'.length), j < k → l[j] = l'[j]
theorem SameTo.next {α : Type} {l l' : List α} {k : Nat} (h : SameTo l l' k) (hk : ∀ (h : k < l.length) (h' : k < l'.length), l[k] = l'[k]) : SameTo l l' (k + 1) := fun j hj hj' hjk => by
  rcases Nat.lt_succ_iff_lt_or_eq.1 hjk with h1 | h1
  · exact h j hj hj' h1
  · subst h1; exact hk hj hj'
theorem SameTo.all {α : Type} {l l' : List α} {k : Nat} (h : SameTo l l' k) (hl : l.length = l'.length) (hk : ¬ k < l.length) : l = l' :=
  List.ext_getElem hl fun j h1 h2 => h j h1 h2 (by omega)
theorem ne_at {α : Type} {l l' : List α} {k : Nat} (h : k < l.length) (h' : k < l'.length) (hn : l[k] ≠ l'[k]) : l ≠ l' := fun e => hn (by subst e; rfl)
theorem ne_len {α : Type} {l l' : List α} (h : l.length ≠ l'.length) : l ≠ l' := fun e => h (by rw [e])

theorem ba_toList {a b : ByteArray} : a.toList = b.toList ↔ a = b := by
  rw [ByteArray.toList_eq, ByteArray.toList_eq]
  constructor
  · intro h
    obtain ⟨⟨x⟩⟩ := a
    obtain ⟨⟨y⟩⟩ := b
    simp at h; subst h; rfl
  · intro h; rw [h]
theorem eqGuard_struct (op : BinOp) (t : TypeId) (h : Tryd.prog.eqGuardType Tryd.prog.depth t = false) (a b : Operand) (xs ys : Array Value) (w : World) : Sem.run Tryd.prog (eqGuard op t a b (.agg xs) (.agg ys)) w = .ok () w := run_eqGuard_agg w op t a b xs ys h
theorem neq_prop (x y : AProp) (w : World) : Sem.run Tryd.prog (Go.binOp .neq 57 (.agg #[.string x.name, .string x.value]) (.agg #[.string y.name, .string y.value])) w = .ok (.bool (!(eqB x y))) w := by
  rw [run_neq_struct, run_equalIn_agg _ 9999 57 _ _ (by kernel_rfl) (by kernel_rfl)]
  simp only [Program.fieldsOf, Tryd.underlying57, Op.eqFields]
  simp only [go_sem]
  obtain ⟨a, b⟩ := x
  obtain ⟨a', b'⟩ := y
  by_cases h1 : a = a'
  · by_cases h2 : b = b'
    · rw [eqB_yes (by rw [h1, h2])]; simp [h1, h2, go_sem]
    · rw [eqB_no (fun e => h2 (by injection e))]; simp [h1, h2, go_sem, ba_toList]
  · rw [eqB_no (fun e => h1 (by injection e))]; simp [h1, go_sem, ba_toList]
theorem neq_ref (x y : ARef) (w : World) : Sem.run Tryd.prog (Go.binOp .neq 60 (.agg #[.string x.role, .int .i64 x.target]) (.agg #[.string y.role, .int .i64 y.target])) w = .ok (.bool (!(eqB x y))) w := by
  rw [run_neq_struct, run_equalIn_agg _ 9999 60 _ _ (by kernel_rfl) (by kernel_rfl)]
  simp only [Program.fieldsOf, Tryd.underlying60, Op.eqFields]
  simp only [go_sem]
  obtain ⟨a, b⟩ := x
  obtain ⟨a', b'⟩ := y
  by_cases h1 : a = a'
  · by_cases h2 : b = b'
    · rw [eqB_yes (by rw [h1, h2])]; simp [h1, h2, go_sem]
    · rw [eqB_no (fun e => h2 (by injection e))]; simp [h1, h2, go_sem, ba_toList]
  · rw [eqB_no (fun e => h1 (by injection e))]; simp [h1, go_sem, ba_toList]
set_option maxHeartbeats 800000 in
theorem ints_any (A A' : Option Addr) (c c' : Nat) (l l' : List Int) (w : World) (F F' : Nat → Prop) (h : RowOf 1 EInt w F A l) (h' : RowOf 1 EInt w F' A' l') (hl : l.length ≤ 9223372036854775807) :
    Calls Tryd.prog 45 #[.slice A l.length c, .slice A' l'.length c'] w fun e w' => e = .returned (.bool (eqB l l')) ∧ ∃ n, w' = w.drewN n := by
  by_cases hll : l.length = l'.length
  · have hll' : (((l.length : Nat) : Int) != l'.length) = false := by rw [hll]; simp
    have HLL := Lib.hid hll
    go_enter Tryd.func45, Tryd.ntmps45
    rw [← hll]
    clear hll hll'
    go_wp2
    go_loopg [5] l.length (fun g s13 wx => ∃ k : Nat, s13 = .int .i64 k ∧ g = l.length - k ∧ k ≤ l.length ∧ (∃ n, wx = w.drewN n) ∧ SameTo l l' k)
    case atStart => exact ⟨0, rfl, rfl, Nat.zero_le _, ⟨0, rfl⟩, fun j _ _ hj => absurd hj (Nat.not_lt_zero _)⟩
    case round =>
      obtain ⟨k, rfl, rfl, hkk, ⟨nd, rfl⟩, hS⟩ := hrel
      have HS := Lib.hid hS; clear hS
      by_cases hlt : k < l.length
      · have hlt' : (k : Int) < l.length := by omega
        have k0 : (0 : Int) ≤ k := by omega
        have hk' : k < l'.length := by have := HLL.out; omega
        obtain ⟨b, off, rfl, _, d0⟩ := int_at h hlt
        obtain ⟨b', off', rfl, _, d2⟩ := int_at h' hk'
        by_cases he : l[k] = l'[k]
        · have HE := Lib.hid he
          have heb : (l[k] != l'[k]) = false := bne_eq_false_iff_eq.2 he
          clear he
          go_wp2
          go_quiet (fail)
          go_wp2
          go_roundg (l.length - (k + 1))
          case measure => omega
          case rel => exact ⟨k + 1, by go_num, rfl, by omega, ⟨nd + nq, rfl⟩, HS.out.next (fun _ _ => HE.out)⟩
        · have E := Lib.hid (eqB_no (ne_at hlt hk' he))
          have heb : (l[k] != l'[k]) = true := bne_iff_ne.2 he
          clear he
          go_wp2
          go_quiet (fail)
          go_wp2
          go_ret
          exact ⟨by rw [E.out]; rfl, nd + nq, by rw [World.drewN_drewN]⟩
      · have hlt' : decide ((k : Int) < l.length) = false := decide_eq_false (by omega)
        have E := Lib.hid (eqB_yes (HS.out.all HLL.out hlt))
        go_wp2
        go_ret
        exact ⟨by rw [E.out]; rfl, nd, rfl⟩
  · have hll' : (((l.length : Nat) : Int) != l'.length) = true := by simp; omega
    have E := Lib.hid (eqB_no (ne_len hll))
    clear hll
    go_enter Tryd.func45, Tryd.ntmps45
    go_wp2
    go_ret
    exact ⟨by rw [E.out]; rfl, 0, rfl⟩
end Go.Proofs.YtpkapommekkbcaaDoor
end
section
namespace Go.Proofs.YtpkapommekkbcaaDoor
open Go Go.RowKit

theorem eq_is {f : FuncId} {args : Array Value} {w : World} {p b : Bool} (h : p = b) (hc : Calls Tryd.prog f args w fun e w' => e = .returned (.bool p) ∧ ∃ n, w' = w.drewN n) : Calls Tryd.prog f args w fun e w' => e = .returned (.bool b) ∧ ∃ n, w' = w.drewN n := by
  rw [h] at hc; exact hc
open Classical in
theorem eqB_is {α : Type} {x y : α} {b : Bool} (h : eqB x y = b) : x = y ↔ b = true := by rw [← h]; exact (decide_eq_true_iff).symm
theorem node_ext {a b : ANode} (h1 : a.id = b.id) (h2 : a.concept = b.concept) (h3 : a.parent = b.parent) (h4 : a.role = b.role) (h5 : a.props = b.props) (h6 : a.kids = b.kids) (h7 : a.refs = b.refs) : a = b := by
  cases a; cases b; simp at h1 h2 h3 h4 h5 h6 h7; subst h1 h2 h3 h4 h5 h6 h7; rfl
theorem ba_beq {a b : ByteArray} {x : Bool} (h : (a.toList == b.toList) = x) : a = b ↔ x = true := by
  rw [← h, beq_iff_eq, ba_toList]

theorem model_ext {a b : AModel} (h1 : a.next = b.next) (h2 : a.nodes = b.nodes) : a = b := by
  cases a; cases b; simp at h1 h2; subst h1 h2; rfl
end Go.Proofs.YtpkapommekkbcaaDoor
end
