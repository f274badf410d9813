import Derived.Test.YtgcbnndbeoekgaaDoorNames
import Derived.Test.YtgcbnndbeoekgaaDoorNodes
set_option linter.unusedSimpArgs false
set_option linter.unusedVariables false
namespace Go.Proofs.YtgcbnndbeoekgaaDoor
open Go Go.RowKit

/-! ### What reads a term's text: a machine of small steps, to which both readers are held -/
def holeOf (r : Option Int) : Int := match r with | some n => if 1 ≤ n ∧ n ≤ 2147483647 then n else 0 | none => 0
/-- the number of a hole's digits; 0: none -/
def numB (l : List UInt8) : Int := holeOf (intB l)
def cut (s : ByteArray) (a b : Nat) : List UInt8 := (s.extract a b).data.toList
def ends (p : Nat → Bool) : Nat → Nat → Nat
  | 0, e => e
  | f + 1, e => if p e then ends p f (e + 1) else e
def byteAt (s : ByteArray) (i : Nat) : Option UInt8 := if h : i < s.size then some s[i] else none
def nameP (s : ByteArray) (i e : Nat) : Bool := decide (e < s.size) && rightB (cut s i (e + 1))
def holeP (s : ByteArray) (i e : Nat) : Bool := decide (e < s.size) && decide (0 < numB (cut s (i + 1) (e + 1)))
def nameEnd (s : ByteArray) (i : Nat) : Nat := ends (nameP s i) s.size i
def holeEnd (s : ByteArray) (i : Nat) : Nat := ends (holeP s i) s.size (i + 1)
def addArg (l : List TN) (k x : Nat) : List TN := if h : k < l.length then l.set k { l[k] with args := l[k].args ++ [(x : Int)] } else l
@[simp] theorem addArg_length (l : List TN) (k x : Nat) : (addArg l k x).length = l.length := by unfold addArg; split <;> simp
theorem addArg_at {l : List TN} {k : Nat} (h : k < l.length) (x : Nat) : addArg l k x = l.set k { l[k] with args := l[k].args ++ [(x : Int)] } := dif_pos h

inductive St where
  | due (i : Nat) (l : List TN) (op : List Nat)
  | after (i : Nat) (l : List TN) (op : List Nat)
  | fail (i : Nat) (e : Int)
  | done (l : List TN)

def step (s : ByteArray) : St → St
  | .due i l op =>
    match byteAt s i with
    | none => .fail i 2
    | some c =>
      if c = 63 then
        if l.length = 256 then .fail i 3 else
        if holeEnd s i = i + 1 then .fail (i + 1) 2 else .after (holeEnd s i) (l ++ [⟨numB (cut s (i + 1) (holeEnd s i)), ByteArray.empty, []⟩]) op
      else if letterB c = false then .fail i 2
      else if l.length = 256 then .fail i 3 else
        if byteAt s (nameEnd s i) = some 40 then .due (nameEnd s i + 1) (addArg (l ++ [⟨0, s.extract i (nameEnd s i), []⟩]) l.length (l.length + 1)) (op ++ [l.length])
        else .after (nameEnd s i) (l ++ [⟨0, s.extract i (nameEnd s i), []⟩]) op
  | .after i l op =>
    match op.getLast? with
    | none => if i = s.size then .done l else .fail i 2
    | some k => if byteAt s i = some 41 then .after (i + 1) l op.dropLast else if byteAt s i = some 44 then .due (i + 1) (addArg l k l.length) op else .fail i 2
  | .fail i e => .fail i e
  | .done l => .done l

section
variable {s : ByteArray} {i : Nat} {l : List TN} {op : List Nat}
end
def Reach (s : ByteArray) (a b : St) : Prop := ∃ n, Nat.repeat (step s) n a = b
theorem Reach.refl (s : ByteArray) (a : St) : Reach s a a := ⟨0, rfl⟩
theorem repeat_succ' (f : St → St) (n : Nat) (a : St) : Nat.repeat f (n + 1) a = Nat.repeat f n (f a) := by
  induction n with
  | zero => rfl
  | succ n ih => show f (Nat.repeat f (n + 1) a) = _; rw [ih]; rfl
theorem repeat_add (f : St → St) (n m : Nat) (a : St) : Nat.repeat f m (Nat.repeat f n a) = Nat.repeat f (n + m) a := by
  induction m with
  | zero => rfl
  | succ m ih => show f (Nat.repeat f m _) = _; rw [ih]; rfl
theorem Reach.trans {s : ByteArray} {a b c : St} (h : Reach s a b) (k : Reach s b c) : Reach s a c := by
  obtain ⟨n, rfl⟩ := h
  obtain ⟨m, rfl⟩ := k
  exact ⟨n + m, (repeat_add _ _ _ _).symm⟩
theorem Reach.one {s : ByteArray} {a b : St} (h : step s a = b) : Reach s a b := ⟨1, h⟩
theorem Reach.next {s : ByteArray} {a b c : St} (h : Reach s a b) (k : step s b = c) : Reach s a c := h.trans (.one k)
def St.still : St → Prop | .fail _ _ => True | .done _ => True | _ => False
theorem repeat_still {s : ByteArray} {a : St} (h : a.still) : ∀ n, Nat.repeat (step s) n a = a := by
  intro n
  induction n with
  | zero => rfl
  | succ n ih => rw [repeat_succ']; cases a <;> first | exact ih | exact h.elim
/-- it ends at one place alone -/
theorem Reach.same {s : ByteArray} {a b c : St} (h : Reach s a b) (k : Reach s a c) (hb : b.still) (hc : c.still) : b = c := by
  obtain ⟨n, rfl⟩ := h
  obtain ⟨m, rfl⟩ := k
  rcases Nat.le_total n m with hnm | hnm
  · obtain ⟨d, rfl⟩ := Nat.exists_eq_add_of_le hnm
    rw [← repeat_add, repeat_still hb]
  · obtain ⟨d, rfl⟩ := Nat.exists_eq_add_of_le hnm
    rw [← repeat_add, repeat_still hc]
end Go.Proofs.YtgcbnndbeoekgaaDoor
