import Derived.Test.YtgcbnndbeoekgaaDoorBase
set_option linter.unusedSimpArgs false
set_option linter.unusedVariables false
namespace Go.Proofs.YtgcbnndbeoekgaaDoor
open Go Go.RowKit

/-! ### Names, as lists of bytes -/
def letterI (x : Int) : Bool := (decide (65 ≤ x) && decide (x ≤ 90)) || (decide (97 ≤ x) && decide (x ≤ 122))
def figureI (x : Int) : Bool := decide (48 ≤ x) && decide (x ≤ 57)
def wordI (x : Int) : Bool := letterI x || figureI x || decide (x = 95)
def letterB (c : UInt8) : Bool := letterI c.toNat
def wordB (c : UInt8) : Bool := wordI c.toNat
def rightB : List UInt8 → Bool
  | [] => false
  | c :: r => decide (r.length < 32) && letterB c && r.all wordB

theorem rightB_of {l : List UInt8} (h0 : 0 < l.length) (h1 : l.length ≤ 32) (h2 : letterB l[0] = true) (h3 : ∀ i (h : i < l.length), wordB l[i] = true) : rightB l = true := by
  cases l with
  | nil => simp at h0
  | cons c r =>
    have : r.all wordB = true := List.all_eq_true.2 fun x hx => by
      obtain ⟨i, hi, rfl⟩ := List.getElem_of_mem hx
      exact h3 (i + 1) (by simpa using hi)
    simp only [rightB, this, Bool.and_true, Bool.and_eq_true, decide_eq_true_eq]
    exact ⟨by simp at h1; omega, h2⟩
theorem rightB_no {l : List UInt8} {i : Nat} (h : i < l.length) (h3 : wordB l[i] = false) : rightB l = false := by
  cases l with
  | nil => rfl
  | cons c r =>
    cases i with
    | zero =>
      have hl : letterB c = false := by
        simp only [List.getElem_cons_zero, wordB, wordI] at h3
        unfold letterB; simp only [Bool.or_eq_false_iff] at h3; exact h3.1.1
      simp [rightB, hl]
    | succ i =>
      have hi : i < r.length := by simpa using h
      have : r.all wordB = false := List.all_eq_false.2 ⟨r[i], List.getElem_mem _, by simpa using h3⟩
      simp [rightB, this]
theorem rightB_long {l : List UInt8} (h : 32 < l.length) : rightB l = false := by
  cases l with
  | nil => rfl
  | cons c r => have : decide (r.length < 32) = false := by simp at h ⊢; omega
                simp [rightB, this]
theorem rightB_head {l : List UInt8} (h : 0 < l.length) (h2 : letterB l[0] = false) : rightB l = false := by
  cases l with
  | nil => rfl
  | cons c r => simp at h2; simp [rightB, h2]
theorem byte_range (c : UInt8) : (0 : Int) ≤ c.toNat ∧ (c.toNat : Int) < 256 := ⟨by omega, by have := c.toNat_lt; omega⟩
/-! ### Numbers, as lists of bytes -/
def digitsVal (l : List UInt8) : Nat := l.foldl (fun n c => 10 * n + (c.toNat - 48)) 0
def figureB (c : UInt8) : Bool := figureI c.toNat
def magB (d : List UInt8) : Option Nat := if d.length = 0 ∨ 19 < d.length ∨ d.all figureB = false then none else some (digitsVal d)
def intB (l : List UInt8) : Option Int :=
  if l.head? = some 45 then
    if l.tail.head? = some 48 then none else
      match magB l.tail with
      | some n => if n ≤ 9223372036854775808 then some (-(n : Int)) else none
      | none => none
  else if l.head? = some 48 ∧ 1 < l.length then none else
    match magB l with
    | some n => if n ≤ 9223372036854775807 then some (n : Int) else none
    | none => none
theorem digitsVal_snoc (l : List UInt8) (c : UInt8) : digitsVal (l ++ [c]) = 10 * digitsVal l + (c.toNat - 48) := by simp [digitsVal]
theorem digitsVal_lt' : ∀ (n : Nat) (l : List UInt8), l.length = n → l.all figureB = true → digitsVal l < 10 ^ n := by
  intro n
  induction n with
  | zero => intro l hl _; obtain rfl := List.eq_nil_of_length_eq_zero hl; simp [digitsVal]
  | succ n ih =>
    intro l hl h
    rcases List.eq_nil_or_concat l with rfl | ⟨r, c, rfl⟩
    · simp at hl
    · simp only [List.concat_eq_append, List.all_append, List.all_cons, List.all_nil, Bool.and_true, Bool.and_eq_true] at h
      obtain ⟨hr, hc⟩ := h
      have ih := ih r (by simpa using hl) hr
      rw [List.concat_eq_append, digitsVal_snoc]
      simp only [figureB, figureI, Bool.and_eq_true, decide_eq_true_eq] at hc
      rw [Nat.pow_succ]
      omega
theorem digitsVal_lt (l : List UInt8) (h : l.all figureB = true) : digitsVal l < 10 ^ l.length := digitsVal_lt' _ l rfl h
theorem digitsVal_head (l : List UInt8) (h : l.all figureB = true) (hn : l ≠ []) (h0 : l.head? ≠ some 48) : 1 ≤ digitsVal l := by
  cases l with
  | nil => exact absurd rfl hn
  | cons c r =>
    have hc : figureB c = true := by simp at h; exact h.1
    simp only [figureB, figureI, Bool.and_eq_true, decide_eq_true_eq] at hc
    have hc0 : c ≠ 48 := by simpa using h0
    have hc1 : c.toNat ≠ 48 := fun e => hc0 (UInt8.toNat.inj e)
    have mono : ∀ (r : List UInt8) (a : Nat), 1 ≤ a → 1 ≤ r.foldl (fun n c => 10 * n + (c.toNat - 48)) a := by
      intro r
      induction r with
      | nil => intro a h; exact h
      | cons x r ih => intro a h; exact ih _ (show 1 ≤ 10 * a + (x.toNat - 48) by omega)
    exact mono r _ (show 1 ≤ 10 * 0 + (c.toNat - 48) by omega)

def amongB (x : Int) (l : List UInt8) : Bool := l.any fun c => (c.toNat : Int) == x
end Go.Proofs.YtgcbnndbeoekgaaDoor
