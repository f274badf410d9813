import Derived.Test.YtgcbnndbeoekgaaDoorMeasP
import Derived.Test.YtgcbnndbeoekgaaDoorMeetA
import Derived.Test.YtgcbnndbeoekgaaDoorPut15
set_option linter.unusedSimpArgs false
set_option linter.unusedVariables false
/- what nodes stand for is written out: what is in memory on the way -/
namespace Go.Proofs.YtgcbnndbeoekgaaDoor
open Go Go.RowKit Go.Maps

/-- all of the web lies below C -/
structure WebLow (C p mb : Nat) (lv tv : Value) (l : List PN) : Prop where
  p : p < C
  mb : mb < C
  lv : ∀ b, lv.ownBlock = some b → b < C
  tv : ∀ b, tv.ownBlock = some b → b < C
  av : ∀ x ∈ l, ∀ b, x.av.ownBlock = some b → b < C
theorem WebLow.ups {C p mb : Nat} {lv tv : Value} {l l' : List PN} (h : WebLow C p mb lv tv l) (hu : Ups l l') : WebLow C p mb lv tv l' := ⟨h.p, h.mb, h.lv, h.tv, fun x hx b hb => by
  obtain ⟨i, hi, rfl⟩ := List.getElem_of_mem hx
  have hi' : i < l.length := by rw [← hu.1]; exact hi
  rw [hu.2 i hi' hi] at hb
  exact h.av _ (List.getElem_mem hi') b hb⟩
theorem WebAt.lows {w : World} {B p mb : Nat} {lv tv : Value} {l : List PN} {hm td : List (Nat × Nat)} (h : WebAt w B p lv mb tv l hm td) {C : Nat} (hC : w.heap.size ≤ C) : WebLow C p mb lv tv l := by
  obtain ⟨D, hD, _⟩ := h.holes
  exact ⟨Nat.lt_of_lt_of_le h.blk.lt hC, Nat.lt_of_lt_of_le hD.lt hC, fun b hb => Nat.lt_of_lt_of_le (h.nodes.lt b hb).2 hC, fun b hb => Nat.lt_of_lt_of_le (h.todo.lt b hb).2 hC, fun x hx b hb => Nat.lt_of_lt_of_le ((h.nodes.args x hx).lt b hb).2 hC⟩
structure WrS (B p mb : Nat) (lv tv : Value) (hm td : List (Nat × Nat)) (W : WebT) (r : Nat → Nat) (tm : Nat → Option Nat) (lo : Nat → Nat) (C : Nat) (l0 : List PN) (wx : World) (l : List PN) : Prop where
  web : WebAt wx B p lv mb tv l hm td
  pw : PW W r tm lo l hm
  ups : Ups l0 l
  low : WebLow C p mb lv tv l
section
variable {B p mb C : Nat} {lv tv : Value} {hm td : List (Nat × Nat)} {W : WebT} {r : Nat → Nat} {tm : Nat → Option Nat} {lo : Nat → Nat} {l0 l l' : List PN} {w wx w' : World}
theorem WrS.grown (h : WrS B p mb lv tv hm td W r tm lo C l0 wx l) {row : Option Nat} (hg : wx.grownBy w' row) (hr : ∀ b, row = some b → C ≤ b) : WrS B p mb lv tv hm td W r tm lo C l0 w' l :=
  ⟨h.web.kept hg fun b e => by
    have := hr b e
    have h1 := h.low
    exact ⟨by have := h1.p; omega, by have := h1.mb; omega, fun e2 => by have := h1.lv b e2; omega, fun e2 => by have := h1.tv b e2; omega, fun x hx e2 => by have := h1.av x hx b e2; omega⟩, h.pw, h.ups, h.low⟩
theorem WrS.alloc (h : WrS B p mb lv tv hm td W r tm lo C l0 wx l) (o : Obj) : WrS B p mb lv tv hm td W r tm lo C l0 (wx.alloc o) l := h.grown (World.grownBy_alloc wx o none) (fun _ e => by cases e)
theorem WrS.found (h : WrS B p mb lv tv hm td W r tm lo C l0 wx l) (hw : WebAt w' B p lv mb tv l' hm td) (hp : PW W r tm lo l' hm) (hu : Ups l l') : WrS B p mb lv tv hm td W r tm lo C l0 w' l' := ⟨hw, hp, h.ups.trans hu, h.low.ups hu⟩
end
/-- rows that lie from C on, behind a change below C -/
theorem OwnX.lowK {eN eI : TypeId} {w w' : World} {C : Nat} {v : Value} {ts : List TN} {X : Nat → Prop} (h : OwnX eN eI w C v ts X) {row : Option Nat} (hg : w.grownBy w' row) (hr : ∀ b, row = some b → b < C) : OwnX eN eI w' C v ts X := by
  obtain ⟨avs, h1, h2, h3, h4, h5⟩ := h
  have key : ∀ {e : TypeId} {size n : Nat} {a : Value} {xs : List Value}, w.ownsRow C e size a n xs → w'.ownsRow C e size a n xs := by
    intro e size n a xs ha
    refine ha.kept hg ?_
    cases hb : a.ownBlock with
    | none => exact .inl rfl
    | some b => exact .inr fun e => by have := (ha.lt b hb).1; have := hr b e.symm; omega
  exact ⟨avs, h1, key h2, fun i hi hi' => key (h3 i hi hi'), h4, h5⟩
theorem own_lowK {w w' : World} {C : Nat} {e : TypeId} {size n : Nat} {a : Value} {xs : List Value} (ha : w.ownsRow C e size a n xs) {row : Option Nat} (hg : w.grownBy w' row) (hr : ∀ b, row = some b → b < C) : w'.ownsRow C e size a n xs := by
  refine ha.kept hg ?_
  cases hb : a.ownBlock with
  | none => exact .inl rfl
  | some b => exact .inr fun e => by have := (ha.lt b hb).1; have := hr b e.symm; omega
/-- what is written may change these blocks alone -/
def WrB (lv v : Value) (b : Nat) : Prop := lv.ownBlock = some b ∨ v.ownBlock = some b
def WritePost (w : World) (B p mb : Nat) (lv tv : Value) (hm td : List (Nat × Nat)) (W : WebT) (r : Nat → Nat) (tm : Nat → Option Nat) (lo : Nat → Nat) (C : Nat) (l : List PN) (v : Value) (ts new : List TN) (X : Nat → Prop) (e : Ending) (w' : World) : Prop :=
  ∃ A' c' l', e = .returned (.slice A' (ts.length + new.length) c') ∧ OwnX 58 3 w' C (.slice A' (ts.length + new.length) c') (ts ++ new) X ∧ WrS B p mb lv tv hm td W r tm lo C l w' l' ∧ Kb (WrB lv v) w w' ∧
    ((Value.slice A' (ts.length + new.length) c').ownBlock = v.ownBlock ∨ ∀ g, (Value.slice A' (ts.length + new.length) c').ownBlock = some g → w.heap.size ≤ g)
section
variable {W : WebT} {r : Nat → Nat} {tm : Nat → Option Nat} {lo : Nat → Nat}
theorem LayL.get {ks : List Nat} {Ls : List Fo} (h : LayL W r tm lo ks Ls) : ∀ j (h1 : j < ks.length) (h2 : j < Ls.length), Lay W r tm lo (r ks[j]) Ls[j] := by
  induction ks generalizing Ls with
  | nil => intro j h1; simp at h1
  | cons a ks ih =>
    cases h with
    | cons _ _ T Ls h1 h2 =>
      intro j a1 a2
      cases j with
      | zero => exact h1
      | succ j => exact ih h2 j (by simpa using a1) (by simpa using a2)
theorem take_ofL {Ls : List Fo} {j : Nat} (h : j < Ls.length) : ofL (Ls.take (j + 1)) = (ofL (Ls.take j)).app2 Ls[j] := by
  rw [List.take_succ_eq_append_getElem h, ofL_app]
  show _ = _
  congr 1
  show Ls[j].app2 .nil = _
  exact Fo.app2_nil _
theorem take_size (Ls : List Fo) (j : Nat) : (ofL (Ls.take j)).size ≤ (ofL Ls).size := by
  have h : ofL Ls = (ofL (Ls.take j)).app2 (ofL (Ls.drop j)) := by rw [← ofL_app, List.take_append_drop]
  rw [h, Fo.size_app2]; omega
end
end Go.Proofs.YtgcbnndbeoekgaaDoor
