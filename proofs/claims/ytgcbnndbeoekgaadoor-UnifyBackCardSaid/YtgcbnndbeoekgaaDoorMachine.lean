import Derived.Test.YtgcbnndbeoekgaaDoorNames
import Derived.Test.YtgcbnndbeoekgaaDoorNodes
set_option linter.unusedSimpArgs false
set_option linter.unusedVariables false
namespace Go.Proofs.YtgcbnndbeoekgaaDoor
open Go Go.RowKit

/-! ### What reads a term's text: a machine of small steps, to which both readers are held -/
def holeOf (r : Option Int) : Int := match r with | some n => if 1 ≤ n ∧ n ≤ 2147483647 then n else 0 | none => 0
/-- the number of a hole's digits; 0: none -/
def numB (l : List UInt8) : Int := holeOf (intB l)
def cut (s : ByteArray) (a b : Nat) : List UInt8 := (s.extract a b).data.toList
def ends (p : Nat → Bool) : Nat → Nat → Nat
  | 0, e => e
  | f + 1, e => if p e then ends p f (e + 1) else e
theorem ends_at {p : Nat → Bool} : ∀ (f a b : Nat), a ≤ b → b - a ≤ f → (∀ k, a ≤ k → k < b → p k = true) → p b = false → ends p f a = b := by
  intro f
  induction f with
  | zero => intro a b h1 h2 _ _; show a = b; omega
  | succ f ih =>
    intro a b h1 h2 h3 h4
    by_cases e : a = b
    · subst e; simp [ends, h4]
    · rw [ends, if_pos (h3 a (Nat.le_refl _) (by omega))]
      exact ih (a + 1) b (by omega) (by omega) (fun k hk hk' => h3 k (by omega) hk') h4
def byteAt (s : ByteArray) (i : Nat) : Option UInt8 := if h : i < s.size then some s[i] else none
theorem byteAt_lt {s : ByteArray} {i : Nat} (h : i < s.size) : byteAt s i = some s[i] := dif_pos h
theorem byteAt_ge {s : ByteArray} {i : Nat} (h : ¬ i < s.size) : byteAt s i = none := dif_neg h
def nameP (s : ByteArray) (i e : Nat) : Bool := decide (e < s.size) && rightB (cut s i (e + 1))
def holeP (s : ByteArray) (i e : Nat) : Bool := decide (e < s.size) && decide (0 < numB (cut s (i + 1) (e + 1)))
def nameEnd (s : ByteArray) (i : Nat) : Nat := ends (nameP s i) s.size i
def holeEnd (s : ByteArray) (i : Nat) : Nat := ends (holeP s i) s.size (i + 1)
def addArg (l : List TN) (k x : Nat) : List TN := if h : k < l.length then l.set k { l[k] with args := l[k].args ++ [(x : Int)] } else l
@[simp] theorem addArg_length (l : List TN) (k x : Nat) : (addArg l k x).length = l.length := by unfold addArg; split <;> simp
theorem addArg_at {l : List TN} {k : Nat} (h : k < l.length) (x : Nat) : addArg l k x = l.set k { l[k] with args := l[k].args ++ [(x : Int)] } := dif_pos h

inductive St where
  | due (i : Nat) (l : List TN) (op : List Nat)
  | after (i : Nat) (l : List TN) (op : List Nat)
  | fail (i : Nat) (e : Int)
  | done (l : List TN)

def step (s : ByteArray) : St → St
  | .due i l op =>
    match byteAt s i with
    | none => .fail i 2
    | some c =>
      if c = 63 then
        if l.length = 256 then .fail i 3 else
        if holeEnd s i = i + 1 then .fail (i + 1) 2 else .after (holeEnd s i) (l ++ [⟨numB (cut s (i + 1) (holeEnd s i)), ByteArray.empty, []⟩]) op
      else if letterB c = false then .fail i 2
      else if l.length = 256 then .fail i 3 else
        if byteAt s (nameEnd s i) = some 40 then .due (nameEnd s i + 1) (addArg (l ++ [⟨0, s.extract i (nameEnd s i), []⟩]) l.length (l.length + 1)) (op ++ [l.length])
        else .after (nameEnd s i) (l ++ [⟨0, s.extract i (nameEnd s i), []⟩]) op
  | .after i l op =>
    match op.getLast? with
    | none => if i = s.size then .done l else .fail i 2
    | some k => if byteAt s i = some 41 then .after (i + 1) l op.dropLast else if byteAt s i = some 44 then .due (i + 1) (addArg l k l.length) op else .fail i 2
  | .fail i e => .fail i e
  | .done l => .done l

section
variable {s : ByteArray} {i : Nat} {l : List TN} {op : List Nat}
theorem step_due (s : ByteArray) (i : Nat) (l : List TN) (op : List Nat) : step s (.due i l op) = (match byteAt s i with
    | none => St.fail i 2
    | some c =>
      if c = 63 then
        if l.length = 256 then .fail i 3 else
        if holeEnd s i = i + 1 then .fail (i + 1) 2 else .after (holeEnd s i) (l ++ [⟨numB (cut s (i + 1) (holeEnd s i)), ByteArray.empty, []⟩]) op
      else if letterB c = false then .fail i 2
      else if l.length = 256 then .fail i 3 else
        if byteAt s (nameEnd s i) = some 40 then .due (nameEnd s i + 1) (addArg (l ++ [⟨0, s.extract i (nameEnd s i), []⟩]) l.length (l.length + 1)) (op ++ [l.length])
        else .after (nameEnd s i) (l ++ [⟨0, s.extract i (nameEnd s i), []⟩]) op) := rfl
theorem step_due_none (h : byteAt s i = none) : step s (.due i l op) = .fail i 2 := by rw [step_due, h]
theorem step_due_bad {c : UInt8} (h : byteAt s i = some c) (h1 : c ≠ 63) (h2 : letterB c = false) : step s (.due i l op) = .fail i 2 := by
  rw [step_due, h]; show (if c = 63 then _ else _) = _; rw [if_neg h1, if_pos h2]
theorem step_due_long {c : UInt8} (h : byteAt s i = some c) (h1 : c = 63 ∨ letterB c = true) (h2 : l.length = 256) : step s (.due i l op) = .fail i 3 := by
  rw [step_due, h]; show (if c = 63 then _ else _) = _
  by_cases hc : c = 63
  · rw [if_pos hc, if_pos h2]
  · rw [if_neg hc, if_neg (by rw [h1.resolve_left hc]; simp), if_pos h2]
theorem step_due_nohole (h : byteAt s i = some 63) (h2 : l.length ≠ 256) (h3 : holeEnd s i = i + 1) : step s (.due i l op) = .fail (i + 1) 2 := by
  rw [step_due, h]; show (if (63 : UInt8) = 63 then _ else _) = _; rw [if_pos rfl, if_neg h2, if_pos h3]
theorem step_due_hole (h : byteAt s i = some 63) (h2 : l.length ≠ 256) (h3 : holeEnd s i ≠ i + 1) : step s (.due i l op) = .after (holeEnd s i) (l ++ [⟨numB (cut s (i + 1) (holeEnd s i)), ByteArray.empty, []⟩]) op := by
  rw [step_due, h]; show (if (63 : UInt8) = 63 then _ else _) = _; rw [if_pos rfl, if_neg h2, if_neg h3]
theorem step_due_open {c : UInt8} (h : byteAt s i = some c) (h1 : c ≠ 63) (h4 : letterB c = true) (h2 : l.length ≠ 256) (h3 : byteAt s (nameEnd s i) = some 40) :
    step s (.due i l op) = .due (nameEnd s i + 1) (addArg (l ++ [⟨0, s.extract i (nameEnd s i), []⟩]) l.length (l.length + 1)) (op ++ [l.length]) := by
  rw [step_due, h]; show (if c = 63 then _ else _) = _; rw [if_neg h1, if_neg (by rw [h4]; simp), if_neg h2, if_pos h3]
theorem step_due_name {c : UInt8} (h : byteAt s i = some c) (h1 : c ≠ 63) (h4 : letterB c = true) (h2 : l.length ≠ 256) (h3 : byteAt s (nameEnd s i) ≠ some 40) :
    step s (.due i l op) = .after (nameEnd s i) (l ++ [⟨0, s.extract i (nameEnd s i), []⟩]) op := by
  rw [step_due, h]; show (if c = 63 then _ else _) = _; rw [if_neg h1, if_neg (by rw [h4]; simp), if_neg h2, if_neg h3]
theorem step_done (h : i = s.size) : step s (.after i l []) = .done l := by show (if i = s.size then _ else _) = _; rw [if_pos h]
theorem step_rest (h : i ≠ s.size) : step s (.after i l []) = .fail i 2 := by show (if i = s.size then _ else _) = _; rw [if_neg h]
theorem step_after (k : Nat) : step s (.after i l (op ++ [k])) = if byteAt s i = some 41 then .after (i + 1) l op else if byteAt s i = some 44 then .due (i + 1) (addArg l k l.length) (op ++ [k]) else .fail i 2 := by
  show (match (op ++ [k]).getLast? with | none => _ | some k => _) = _
  rw [List.getLast?_concat]; simp only [List.dropLast_concat]
end
def Reach (s : ByteArray) (a b : St) : Prop := ∃ n, Nat.repeat (step s) n a = b
theorem Reach.refl (s : ByteArray) (a : St) : Reach s a a := ⟨0, rfl⟩
theorem repeat_succ' (f : St → St) (n : Nat) (a : St) : Nat.repeat f (n + 1) a = Nat.repeat f n (f a) := by
  induction n with
  | zero => rfl
  | succ n ih => show f (Nat.repeat f (n + 1) a) = _; rw [ih]; rfl
theorem repeat_add (f : St → St) (n m : Nat) (a : St) : Nat.repeat f m (Nat.repeat f n a) = Nat.repeat f (n + m) a := by
  induction m with
  | zero => rfl
  | succ m ih => show f (Nat.repeat f m _) = _; rw [ih]; rfl
theorem Reach.trans {s : ByteArray} {a b c : St} (h : Reach s a b) (k : Reach s b c) : Reach s a c := by
  obtain ⟨n, rfl⟩ := h
  obtain ⟨m, rfl⟩ := k
  exact ⟨n + m, (repeat_add _ _ _ _).symm⟩
theorem Reach.one {s : ByteArray} {a b : St} (h : step s a = b) : Reach s a b := ⟨1, h⟩
theorem Reach.next {s : ByteArray} {a b c : St} (h : Reach s a b) (k : step s b = c) : Reach s a c := h.trans (.one k)
def St.still : St → Prop | .fail _ _ => True | .done _ => True | _ => False
theorem repeat_still {s : ByteArray} {a : St} (h : a.still) : ∀ n, Nat.repeat (step s) n a = a := by
  intro n
  induction n with
  | zero => rfl
  | succ n ih => rw [repeat_succ']; cases a <;> first | exact ih | exact h.elim
/-- it ends at one place alone -/
theorem Reach.same {s : ByteArray} {a b c : St} (h : Reach s a b) (k : Reach s a c) (hb : b.still) (hc : c.still) : b = c := by
  obtain ⟨n, rfl⟩ := h
  obtain ⟨m, rfl⟩ := k
  rcases Nat.le_total n m with hnm | hnm
  · obtain ⟨d, rfl⟩ := Nat.exists_eq_add_of_le hnm
    rw [← repeat_add, repeat_still hb]
  · obtain ⟨d, rfl⟩ := Nat.exists_eq_add_of_le hnm
    rw [← repeat_add, repeat_still hc]
/-- what a reader of one term has done: it stands behind it, or it fails -/
def Sim (s : ByteArray) (i : Nat) (l : List TN) (err : Int) (j : Nat) (l' : List TN) : Prop :=
  (err = 0 ∧ i < j ∧ j ≤ s.size ∧ (∃ r, l' = l ++ r ∧ r ≠ []) ∧ l'.length ≤ 256 ∧ ∀ op, Reach s (.due i l op) (.after j l' op)) ∨ (err ≠ 0 ∧ j ≤ s.size ∧ ∀ op, Reach s (.due i l op) (.fail j err))
end Go.Proofs.YtgcbnndbeoekgaaDoor
