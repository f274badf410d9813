/- terms as trees, in plain Lean: forests, their nodes and their text; what is read from a term's text is the term -/
import Derived.Test.YtgcbnndbeoekgaaDoorMachine
set_option linter.unusedSimpArgs false
set_option linter.unusedVariables false
namespace Go.Proofs.YtgcbnndbeoekgaaDoor
open Go Go.RowKit

/-- trees, one behind the other -/
inductive Fo where
  | nil
  | hole (n : Nat) (rest : Fo)
  | app (name : ByteArray) (kids rest : Fo)
def Fo.size : Fo → Nat
  | .nil => 0
  | .hole _ r => 1 + r.size
  | .app _ k r => 1 + k.size + r.size
def Fo.isNil : Fo → Bool
  | .nil => true
  | _ => false
def Fo.offs : Nat → Fo → List Int
  | _, .nil => []
  | o, .hole _ r => (o : Int) :: r.offs (o + 1)
  | o, .app _ k r => (o : Int) :: r.offs (o + 1 + k.size)
def Fo.flat : Nat → Fo → List TN
  | _, .nil => []
  | o, .hole n r => ⟨n, ByteArray.empty, []⟩ :: r.flat (o + 1)
  | o, .app nm k r => ⟨0, nm, k.offs (o + 1)⟩ :: (k.flat (o + 1) ++ r.flat (o + 1 + k.size))
def Fo.one : Fo → Prop
  | .nil => False
  | .hole _ r => r = .nil
  | .app _ _ r => r = .nil
def Fo.wf : Fo → Prop
  | .nil => True
  | .hole n r => 1 ≤ n ∧ n ≤ 2147483647 ∧ r.wf
  | .app nm k r => rightB nm.data.toList = true ∧ k.wf ∧ r.wf
theorem Fo.flat_len : ∀ (F : Fo) (o : Nat), (F.flat o).length = F.size
  | .nil, _ => rfl
  | .hole _ r, o => by show (r.flat (o + 1)).length + 1 = 1 + r.size; rw [flat_len r]; omega
  | .app _ k r, o => by show (k.flat (o + 1) ++ r.flat (o + 1 + k.size)).length + 1 = 1 + k.size + r.size; rw [List.length_append, flat_len k, flat_len r]; omega

/-! ### A number's figures -/
def digs (n : Nat) : List UInt8 := if n < 10 then [UInt8.ofNat (48 + n)] else digs (n / 10) ++ [UInt8.ofNat (48 + n % 10)]
theorem digs_small {n : Nat} (h : n < 10) : digs n = [UInt8.ofNat (48 + n)] := by rw [digs, if_pos h]
theorem digs_big {n : Nat} (h : ¬ n < 10) : digs n = digs (n / 10) ++ [UInt8.ofNat (48 + n % 10)] := by rw [digs, if_neg h]
theorem digs_len (k n : Nat) (h : n < 10 ^ (k + 1)) : (digs n).length ≤ k + 1 := by
  induction k generalizing n with
  | zero => rw [digs_small (by simpa using h)]; simp
  | succ k ih =>
    by_cases h1 : n < 10
    · rw [digs_small h1]; simp
    · rw [digs_big h1]
      have := ih (n / 10) (by rw [Nat.pow_succ] at h; omega)
      simp; omega
/-! ### Where a name, and a number, end -/
section
variable {s : ByteArray} {p t q : List UInt8}
end

/-! ### A term's text is read as the term -/
def par (b : Bool) (t : List UInt8) : List UInt8 := if b = true then [] else 40 :: (t ++ [41])
/-- the text of trees, a comma ahead of each but the first one -/
def Fo.txt : Bool → Fo → List UInt8
  | _, .nil => []
  | b, .hole n r => (if b = true then [44] else []) ++ (63 :: digs n ++ r.txt true)
  | b, .app nm k r => (if b = true then [44] else []) ++ (nm.data.toList ++ par k.isNil (k.txt false) ++ r.txt true)
theorem Fo.txt_comma : ∀ {F : Fo}, F.isNil = false → F.txt true = 44 :: F.txt false
  | .nil, h => by cases h
  | .hole _ _, _ => rfl
  | .app _ _ _, _ => rfl
end Go.Proofs.YtgcbnndbeoekgaaDoor
