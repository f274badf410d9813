import Derived.Test.YtgcbnndbeoekgaaDoorBase
set_option linter.unusedSimpArgs false
set_option linter.unusedVariables false
namespace Go.Proofs.YtgcbnndbeoekgaaDoor
open Go Go.RowKit

/-! ### Names, as lists of bytes -/
def letterI (x : Int) : Bool := (decide (65 ≤ x) && decide (x ≤ 90)) || (decide (97 ≤ x) && decide (x ≤ 122))
def figureI (x : Int) : Bool := decide (48 ≤ x) && decide (x ≤ 57)
def wordI (x : Int) : Bool := letterI x || figureI x || decide (x = 95)
def letterB (c : UInt8) : Bool := letterI c.toNat
def wordB (c : UInt8) : Bool := wordI c.toNat
def rightB : List UInt8 → Bool
  | [] => false
  | c :: r => decide (r.length < 32) && letterB c && r.all wordB

theorem rightB_of {l : List UInt8} (h0 : 0 < l.length) (h1 : l.length ≤ 32) (h2 : letterB l[0] = true) (h3 : ∀ i (h : i < l.length), wordB l[i] = true) : rightB l = true := by
  cases l with
  | nil => simp at h0
  | cons c r =>
    have : r.all wordB = true := List.all_eq_true.2 fun x hx => by
      obtain ⟨i, hi, rfl⟩ := List.getElem_of_mem hx
      exact h3 (i + 1) (by simpa using hi)
    simp only [rightB, this, Bool.and_true, Bool.and_eq_true, decide_eq_true_eq]
    exact ⟨by simp at h1; omega, h2⟩
theorem rightB_no {l : List UInt8} {i : Nat} (h : i < l.length) (h3 : wordB l[i] = false) : rightB l = false := by
  cases l with
  | nil => rfl
  | cons c r =>
    cases i with
    | zero =>
      have hl : letterB c = false := by
        simp only [List.getElem_cons_zero, wordB, wordI] at h3
        unfold letterB; simp only [Bool.or_eq_false_iff] at h3; exact h3.1.1
      simp [rightB, hl]
    | succ i =>
      have hi : i < r.length := by simpa using h
      have : r.all wordB = false := List.all_eq_false.2 ⟨r[i], List.getElem_mem _, by simpa using h3⟩
      simp [rightB, this]
theorem rightB_long {l : List UInt8} (h : 32 < l.length) : rightB l = false := by
  cases l with
  | nil => rfl
  | cons c r => have : decide (r.length < 32) = false := by simp at h ⊢; omega
                simp [rightB, this]
theorem rightB_head {l : List UInt8} (h : 0 < l.length) (h2 : letterB l[0] = false) : rightB l = false := by
  cases l with
  | nil => rfl
  | cons c r => simp at h2; simp [rightB, h2]
theorem letterI_word {x : Int} (h : letterI x = true) : wordI x = true := by simp [wordI, h]

/-! ### Numbers, as lists of bytes -/
def digitsVal (l : List UInt8) : Nat := l.foldl (fun n c => 10 * n + (c.toNat - 48)) 0
def figureB (c : UInt8) : Bool := figureI c.toNat
def magB (d : List UInt8) : Option Nat := if d.length = 0 ∨ 19 < d.length ∨ d.all figureB = false then none else some (digitsVal d)
def intB (l : List UInt8) : Option Int :=
  if l.head? = some 45 then
    if l.tail.head? = some 48 then none else
      match magB l.tail with
      | some n => if n ≤ 9223372036854775808 then some (-(n : Int)) else none
      | none => none
  else if l.head? = some 48 ∧ 1 < l.length then none else
    match magB l with
    | some n => if n ≤ 9223372036854775807 then some (n : Int) else none
    | none => none
def amongB (x : Int) (l : List UInt8) : Bool := l.any fun c => (c.toNat : Int) == x
def lettersL : List UInt8 := [65, 66, 67, 68, 69, 70, 71, 72, 73, 74, 75, 76, 77, 78, 79, 80, 81, 82, 83, 84, 85, 86, 87, 88, 89, 90, 97, 98, 99, 100, 101, 102, 103, 104, 105, 106, 107, 108, 109, 110, 111, 112, 113, 114, 115, 116, 117, 118, 119, 120, 121, 122]
def figuresL : List UInt8 := [48, 49, 50, 51, 52, 53, 54, 55, 56, 57]
def wordsL : List UInt8 := lettersL ++ figuresL ++ [95]
theorem among_table : ∀ n : Fin 256, amongB (n.val : Int) lettersL = letterI n.val ∧ amongB (n.val : Int) figuresL = figureI n.val ∧ amongB (n.val : Int) wordsL = wordI n.val := by decide +kernel
theorem among_letters (c : UInt8) : amongB c.toNat lettersL = letterB c := (among_table ⟨c.toNat, c.toNat_lt⟩).1
theorem among_words (c : UInt8) : amongB c.toNat wordsL = wordB c := (among_table ⟨c.toNat, c.toNat_lt⟩).2.2
end Go.Proofs.YtgcbnndbeoekgaaDoor
