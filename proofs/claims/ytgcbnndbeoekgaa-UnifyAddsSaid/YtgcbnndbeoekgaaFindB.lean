import Derived.Test.YtgcbnndbeoekgaaRightR
set_option linter.unusedSimpArgs false
set_option linter.unusedVariables false
section
/- a number's figures, as the document shows them -/
namespace Go.Proofs.Ytgcbnndbeoekgaa
open Go Go.RowKit

end Go.Proofs.Ytgcbnndbeoekgaa
end
section
/- a term's text, as the document has it -/
namespace Go.Proofs.Ytgcbnndbeoekgaa
open Go Go.RowKit

end Go.Proofs.Ytgcbnndbeoekgaa
end
section
/- bounds in memory; what stands for a hole, as the document looks it up; its Print -/
namespace Go.Proofs.Ytgcbnndbeoekgaa
open Go Go.RowKit

def EBind (w : World) (F : Nat → Prop) (x : ABind) (cs : List Value) : Prop := ∃ v, cs = [.int .i64 x.hole, v] ∧ IsRow 3 ETN w F v x.term
theorem EBind.stays : Stays EBind := fun _ _ _ _ _ _ hF hk ⟨v, e, h⟩ => ⟨v, e, h.keep ETN.stays hk hF⟩
theorem bind_at {w : World} {F : Nat → Prop} {A : Option Addr} {l : List ABind} (h : RowOf 2 EBind w F A l) {i : Nat} (hi : i < l.length) :
    ∃ b off S c, A = some ⟨b, off, none⟩ ∧ F b ∧ w.cell? ⟨b, off + i * 2, none⟩ = some (.int .i64 l[i].hole) ∧ w.cell? ⟨b, off + i * 2 + 1, none⟩ = some (.slice S l[i].term.length c) ∧
      l[i].term.length ≤ c ∧ c ≤ maxLen ∧ RowOf 3 ETN w F S l[i].term := by
  obtain ⟨b, off, rfl, hb⟩ := h.1 (by intro hn; subst hn; simp at hi)
  obtain ⟨cs, _, ⟨v, hx, S, c, rfl, hc1, hc2, hr⟩, hc⟩ := h.2 i hi
  have hc := hc b off rfl
  subst hx
  exact ⟨b, off, S, c, rfl, hb, hc 0 (by omega), hc 1 (by omega), hc1, hc2, hr⟩

set_option maxRecDepth 100000 in
set_option maxHeartbeats 1000000 in
/-- nothing stands for a hole -/
theorem rfind_no (A : Option Addr) (c : Nat) (l : List ABind) (h : Int) (w : World) (F : Nat → Prop) (hF : ∀ b, F b → b < w.heap.size) (hr : RowOf 2 EBind w F A l) (hlc : l.length ≤ c) (hc : c ≤ maxLen) (hno : ∀ x ∈ l, x.hole ≠ h) :
    Calls Try.prog 30 #[.slice A l.length c, .int .i64 h] w fun e w' => e = .returned (.tuple #[.agg #[.slice none 0 0], .bool false]) ∧ Below w.heap.size w w' := by
  have HR := Lib.hid hr
  have HNO := Lib.hid hno
  unfold maxLen at hc
  clear hr hno
  go_enter Try.func30, Try.ntmps30
  go_wp2
  go_loopg [6] l.length (fun g s6 wx => ∃ i : Nat, s6 = .int .i64 i ∧ g = l.length - i ∧ i ≤ l.length ∧ Below w.heap.size w wx ∧ Blk wx w.heap.size 24 #[.slice none 0 0])
  case atStart => exact ⟨0, rfl, rfl, Nat.zero_le _, (Below.refl _ _).alloc (Nat.le_refl _) _, Blk.new _ _ _⟩
  case round =>
    obtain ⟨i, rfl, rfl, hi, hb, hx⟩ := hrel
    have HB := Lib.hid hb; have HX := Lib.hid hx
    have i0 : (0 : Int) ≤ i := by omega
    by_cases hlt : i < l.length
    · obtain ⟨b, off, S, k, rfl, hbF, d0, d1, _, _, _⟩ := bind_at HR.out hlt
      have hbw := hF b hbF
      have d0 := (hb.cell (p := ⟨b, off + i * 2, none⟩) hbw).trans d0
      have hlt' : (i : Int) < l.length := by omega
      have hne := HNO.out _ (List.getElem_mem hlt)
      generalize l[i].hole = x at *
      have e1 : (x == h) = false := beq_eq_false_iff_ne.2 hne
      clear hb hx hne d1
      go_wp2
      go_roundg (l.length - (i + 1))
      case measure => omega
      case rel => exact ⟨i + 1, by go_num, rfl, by omega, HB.out, HX.out⟩
    · have hlt' : ¬ (i : Int) < l.length := by omega
      have c0 := hx.cell 0
      have f0 := hx.frozen 0
      have hxl := hx.lt
      simp at c0
      clear hb hx
      go_wp2
      have HX2 := HX.out.set_ 0 (.slice none 0 0)
      have c1 := HX2.cell 0
      simp at c1
      exact bodyPost_ret (v := .tuple #[.agg #[.slice none 0 0], .bool false]) (by simp [results, Try.results30, go_sem, c1]) rfl ⟨rfl, HB.out.setCell (p := ⟨w.heap.size, 0, none⟩) (Nat.le_refl _) _⟩

set_option maxRecDepth 100000 in
set_option maxHeartbeats 1000000 in
/-- what stands for a hole -/
theorem rfind_yes (b off c : Nat) (l : List ABind) (h : Int) (w : World) (F : Nat → Prop) (hF : ∀ b, F b → b < w.heap.size) (hr : RowOf 2 EBind w F (some ⟨b, off, none⟩) l) (hlc : l.length ≤ c) (hc : c ≤ maxLen) (m : Nat) (hm : m < l.length) (hmh : l[m].hole = h) (hno : ∀ j (hj : j < l.length), j < m → l[j].hole ≠ h)
    (S : Option Addr) (n k : Nat) (hS : w.cell? ⟨b, off + m * 2 + 1, none⟩ = some (.slice S n k)) :
    Calls Try.prog 30 #[.slice (some ⟨b, off, none⟩) l.length c, .int .i64 h] w fun e w' => e = .returned (.tuple #[.agg #[.slice S n k], .bool true]) ∧ Below w.heap.size w w' := by
  have HR := Lib.hid hr
  have HNO := Lib.hid hno
  have HMH := Lib.hid hmh
  have hml : (m : Int) < l.length := by omega
  have hbw : b < w.heap.size := by
    obtain ⟨b', off', e, hb'⟩ := hr.1 (by intro e; rw [e] at hm; simp at hm)
    cases e; exact hF _ hb'
  unfold maxLen at hc
  clear hr hno hmh
  go_enter Try.func30, Try.ntmps30
  go_wp2
  go_loopg [6] l.length (fun g s6 wx => ∃ i : Nat, s6 = .int .i64 i ∧ g = l.length - i ∧ i ≤ m ∧ Below w.heap.size w wx ∧ Blk wx w.heap.size 24 #[.slice none 0 0])
  case atStart => exact ⟨0, rfl, rfl, Nat.zero_le _, (Below.refl _ _).alloc (Nat.le_refl _) _, Blk.new _ _ _⟩
  case round =>
    obtain ⟨i, rfl, rfl, hi, hb, hx⟩ := hrel
    have HB := Lib.hid hb; have HX := Lib.hid hx
    have i0 : (0 : Int) ≤ i := by omega
    have hlt : i < l.length := by omega
    obtain ⟨b', off', _, _, e, hbF, d0, _, _, _, _⟩ := bind_at HR.out hlt
    injection e with e
    injection e with e1 e2
    subst e1; subst e2
    have d0 := (hb.cell (p := ⟨b, off + i * 2, none⟩) hbw).trans d0
    have hlt' : (i : Int) < l.length := by omega
    by_cases him : i = m
    · have e3 : l[i].hole = h := by have := HMH.out; subst him; exact this
      have HIM := Lib.hid him
      have d1 := (hb.cell (p := ⟨b, off + m * 2 + 1, none⟩) hbw).trans hS
      subst him
      rw [e3] at d0
      have c0 := hx.cell 0
      have f0 := hx.frozen 0
      have hxl := hx.lt
      simp at c0
      clear hb hx e3 hS
      go_wp2
      have HX2 := HX.out.set_ 0 (.slice S n k)
      have c1 := HX2.cell 0
      simp at c1
      exact bodyPost_ret (v := .tuple #[.agg #[.slice S n k], .bool true]) (by simp [results, Try.results30, go_sem, c1]) rfl ⟨rfl, HB.out.setCell (p := ⟨w.heap.size, 0, none⟩) (Nat.le_refl _) _⟩
    · have hne := HNO.out i hlt (by omega)
      generalize l[i].hole = x at *
      have e1 : (x == h) = false := beq_eq_false_iff_ne.2 hne
      clear hb hx hne hS
      go_wp2
      go_roundg (l.length - (i + 1))
      case measure => omega
      case rel => exact ⟨i + 1, by go_num, rfl, by omega, HB.out, HX.out⟩

end Go.Proofs.Ytgcbnndbeoekgaa
end
