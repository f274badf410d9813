/- a past alone: what is done with it, its blocks all but its box -/
import Derived.Test.YtpjkifbicfcajaaHPush
import Derived.Test.YtpjkifbicfcajaaHTo
import Derived.Test.YtpjkifbicfcajaaHNew
import Derived.Test.YtpjkifbicfcajaaRowM
import Derived.Test.YtpjkifbicfcajaaASameOwn
set_option linter.unusedSimpArgs false
set_option linter.unusedVariables false
namespace Go.Proofs.Ytpjkifbicfcajaa
open Go Go.RowKit

/-- all there is but a past's box -/
def FP (w : World) (p b : Nat) : Prop := b < w.heap.size ∧ b ≠ p
/-- a past -/
def Pst (w : World) (p : Nat) (P : APast) : Prop := IsPast w (FP w p) p P
/-- a model's nodes, none in a past's box -/
def Mdl (w : World) (p : Nat) (A : Option Addr) (m : AModel) : Prop := RowOf 7 ENode w (FP w p) A m.nodes
section
variable {w w' : World} {p : Nat} {P : APast} {A : Option Addr} {m : AModel} {F : Nat → Prop}
theorem keepO_below {O : Nat → Prop} (hb : Below w.heap.size w w') : KeepO O w w' := (KeepO.refl O w).below hb
theorem IsPast.fp (h : IsPast w F p P) (hF : ∀ b, F b → b < w.heap.size ∧ b ≠ p) : Pst w p P := h.keep (Keep.refl _ _) hF rfl
theorem Pst.up (h : Pst w p P) (hb : Below w.heap.size w w') : Pst w' p P := (IsPast.below h hb (fun _ h => h.1)).fp (fun _ h => ⟨Nat.lt_of_lt_of_le h.1 hb.size, h.2⟩)
theorem Pst.lt (h : Pst w p P) : p < w.heap.size := IsPast.lt h
theorem Mdl.step (h : Mdl w p A m) (hk : KeepO (· = p) w w') : Mdl w' p A m := RowOf.keep ENode.stays (hk.keep (fun _ h => h)) (fun _ h => ⟨Nat.lt_of_lt_of_le h.1 hk.size, h.2⟩) h
theorem RowOf.mdl (h : RowOf 7 ENode w F A m.nodes) (hF : ∀ b, F b → b < w.heap.size ∧ b ≠ p) : Mdl w p A m := RowOf.keep ENode.stays (Keep.refl _ _) hF h
theorem own_mdl {base : Nat} {v : Value} {l : List LN} (h : OwnM w base v l) (hm : l.map LN.n = m.nodes) (hp : p < base) : ∃ A c, v = .slice A m.nodes.length c ∧ Mdl w p A m := by
  have h1 := h.isRow (F := FP w p) (fun b h1 h2 => ⟨h2, by omega⟩)
  rw [hm] at h1
  obtain ⟨A, c, e, _, _, h2⟩ := h1
  exact ⟨A, c, e, h2⟩
/-- what undo and redo leave -/
def TPst (w w' : World) (p : Nat) (E : Int × APast) (e : Ending) : Prop :=
  ∃ mv, e = .returned (.tuple #[mv, .int .i64 E.1]) ∧ KeepO (· = p) w w' ∧ Pst w' p E.2 ∧ (E.1 ≠ 0 → mv = .agg #[.int .i64 0, .slice none 0 0]) ∧
    (E.1 = 0 → ∃ A c, mv = .agg #[.int .i64 E.2.here.next, .slice A E.2.here.nodes.length c] ∧ Mdl w' p A E.2.here)
theorem ToPost.tpst {E : Int × APast} {e : Ending} (hw : p < w.heap.size) (h : ToPost w w' (FP w p) p E e) : TPst w w' p E e := by
  obtain ⟨mv, he, hk, hp, h1, h2⟩ := h
  refine ⟨mv, he, hk, hp.fp (fun _ h => ⟨Nat.lt_of_lt_of_le h.1 hk.size, h.2⟩), h1, fun h0 => ?_⟩
  obtain ⟨v, l, e1, ho, hm⟩ := h2 h0
  obtain ⟨A, c, rfl, h3⟩ := own_mdl ho hm hw
  exact ⟨A, c, e1, h3⟩
theorem undo_fp (h : Pst w p P) (hfit : P.Fits) (hz : ∀ m ∈ P.list, ModAll m) : Calls Try.prog 18 #[.pointer (some ⟨p, 0, none⟩)] w fun e w' => TPst w w' p (undoP P) e :=
  (undo_any p P w (FP w p) (fun _ h => h.1) (fun h => h.2 rfl) h hfit hz).mono fun _ _ h2 => h2.tpst h.lt
theorem redo_fp (h : Pst w p P) (hfit : P.Fits) (hz : ∀ m ∈ P.list, ModAll m) : Calls Try.prog 21 #[.pointer (some ⟨p, 0, none⟩)] w fun e w' => TPst w w' p (redoP P) e :=
  (redo_any p P w (FP w p) (fun _ h => h.1) (fun h => h.2 rfl) h hfit hz).mono fun _ _ h2 => h2.tpst h.lt
theorem push_fp {F2 : Nat → Prop} (c : Nat) (h : Pst w p P) (hfit : P.Fits) (hF2 : ∀ b, F2 b → b < w.heap.size) (hm : RowOf 7 ENode w F2 A m.nodes) (hzm : ModAll m) :
    Calls Try.prog 16 #[.pointer (some ⟨p, 0, none⟩), .agg #[.int .i64 m.next, .slice A m.nodes.length c]] w fun e w' => e = .returned (.int .i64 (pushP P m).1) ∧ KeepO (· = p) w w' ∧ Pst w' p (pushP P m).2 :=
  (push_any p P A c m w (FP w p) F2 (fun _ h => h.1) hF2 (fun h => h.2 rfl) h hfit hm hzm).mono fun _ _ ⟨h1, h2, h3⟩ => ⟨h1, h2, h3.fp (fun b hb => by
    have := h2.size; have := h.lt
    rcases hb with hb | hb
    · exact ⟨Nat.lt_of_lt_of_le hb.1 h2.size, hb.2⟩
    · exact ⟨hb.2, by omega⟩)⟩
theorem new_fp (c : Nat) (hF : ∀ b, F b → b < w.heap.size) (h : RowOf 7 ENode w F A m.nodes) (hz : ModAll m) :
    Calls Try.prog 12 #[.agg #[.int .i64 m.next, .slice A m.nodes.length c]] w fun e w' => ∃ pv, e = .returned (.tuple #[pv, .int .i64 (checkI m)]) ∧ Below w.heap.size w w' ∧ (checkI m ≠ 0 → pv = .pointer none) ∧
      (checkI m = 0 → ∃ p, pv = .pointer (some ⟨p, 0, none⟩) ∧ w.heap.size ≤ p ∧ Pst w' p ⟨[], m, []⟩) :=
  (new_any A c m w F hF h hz).mono fun _ _ ⟨pv, h1, h2, h3, h4⟩ => ⟨pv, h1, h2, h3, fun h0 => by
    obtain ⟨p, e, hp, h5⟩ := h4 h0
    exact ⟨p, e, hp, h5.fp (fun b hb => ⟨by have := h5.lt; omega, by omega⟩)⟩⟩
theorem depth_fp (h : Pst w p P) (hfit : P.Fits) : Calls Try.prog 33 #[.pointer (some ⟨p, 0, none⟩)] w fun e w' => e = .returned (.tuple #[.int .i64 P.ahead.length, .int .i64 P.behind.length]) ∧ Below w.heap.size w w' := by
  obtain ⟨A, c, hb, _, _, _⟩ := h
  have hl := P.list_len
  have := depth_any p P.list.length c P.ahead.length A w hb (by omega) hfit
  rw [show P.list.length - 1 - P.ahead.length = P.behind.length by omega] at this
  exact this
theorem now_fp (h : Pst w p P) (hz : ModAll P.here) : Calls Try.prog 32 #[.pointer (some ⟨p, 0, none⟩)] w fun e w' => ∃ A c, e = .returned (.agg #[.int .i64 P.here.next, .slice A P.here.nodes.length c]) ∧ Mdl w' p A P.here ∧ Below w.heap.size w w' :=
  (now_any p P w (FP w p) (fun _ h => h.1) h hz).mono fun _ _ ⟨v, h1, l, ho, hm, hb⟩ => by
    obtain ⟨A, c, rfl, h3⟩ := own_mdl ho hm h.lt
    exact ⟨A, c, h1, h3, hb⟩
theorem TPst.ok {e : Ending} {a b : List AModel} (h : TPst w w' p (0, ⟨a, m, b⟩) e) : ∃ A c, e = .returned (.tuple #[.agg #[.int .i64 m.next, .slice A m.nodes.length c], .int .i64 0]) ∧ KeepO (· = p) w w' ∧ Pst w' p ⟨a, m, b⟩ ∧ Mdl w' p A m := by
  obtain ⟨mv, he, hk, hp, _, h2⟩ := h
  obtain ⟨A, c, rfl, h3⟩ := h2 rfl
  exact ⟨A, c, he, hk, hp, h3⟩
theorem TPst.no {e : Ending} {n : Int} (hn : n ≠ 0) (h : TPst w w' p (n, P) e) : e = .returned (.tuple #[.agg #[.int .i64 0, .slice none 0 0], .int .i64 n]) ∧ KeepO (· = p) w w' ∧ Pst w' p P := by
  obtain ⟨mv, he, hk, hp, h1, _⟩ := h
  obtain rfl := h1 hn
  exact ⟨he, hk, hp⟩
theorem undo_ok {a b : List AModel} (h : Pst w p P) (hfit : P.Fits) (hz : ∀ m ∈ P.list, ModAll m) (hE : undoP P = (0, ⟨a, m, b⟩)) : Calls Try.prog 18 #[.pointer (some ⟨p, 0, none⟩)] w fun e w' => ∃ A c, e = .returned (.tuple #[.agg #[.int .i64 m.next, .slice A m.nodes.length c], .int .i64 0]) ∧ KeepO (· = p) w w' ∧ Pst w' p ⟨a, m, b⟩ ∧ Mdl w' p A m :=
  (undo_fp h hfit hz).mono fun _ _ h2 => by rw [hE] at h2; exact h2.ok
theorem redo_ok {a b : List AModel} (h : Pst w p P) (hfit : P.Fits) (hz : ∀ m ∈ P.list, ModAll m) (hE : redoP P = (0, ⟨a, m, b⟩)) : Calls Try.prog 21 #[.pointer (some ⟨p, 0, none⟩)] w fun e w' => ∃ A c, e = .returned (.tuple #[.agg #[.int .i64 m.next, .slice A m.nodes.length c], .int .i64 0]) ∧ KeepO (· = p) w w' ∧ Pst w' p ⟨a, m, b⟩ ∧ Mdl w' p A m :=
  (redo_fp h hfit hz).mono fun _ _ h2 => by rw [hE] at h2; exact h2.ok
theorem undo_no (h : Pst w p P) (hfit : P.Fits) (hz : ∀ m ∈ P.list, ModAll m) (hE : undoP P = (270, P)) : Calls Try.prog 18 #[.pointer (some ⟨p, 0, none⟩)] w fun e w' => e = .returned (.tuple #[.agg #[.int .i64 0, .slice none 0 0], .int .i64 270]) ∧ KeepO (· = p) w w' ∧ Pst w' p P :=
  (undo_fp h hfit hz).mono fun _ _ h2 => by rw [hE] at h2; exact h2.no (by decide)
theorem redo_no (h : Pst w p P) (hfit : P.Fits) (hz : ∀ m ∈ P.list, ModAll m) (hE : redoP P = (270, P)) : Calls Try.prog 21 #[.pointer (some ⟨p, 0, none⟩)] w fun e w' => e = .returned (.tuple #[.agg #[.int .i64 0, .slice none 0 0], .int .i64 270]) ∧ KeepO (· = p) w w' ∧ Pst w' p P :=
  (redo_fp h hfit hz).mono fun _ _ h2 => by rw [hE] at h2; exact h2.no (by decide)
/-- two models are the same -/
theorem same_fp {F2 : Nat → Prop} {A' : Option Addr} {m' : AModel} (c c' : Nat) (h : Mdl w p A m) (hF2 : ∀ b, F2 b → b < w.heap.size) (h' : RowOf 7 ENode w F2 A' m'.nodes) (hl : m.nodes.length ≤ 9223372036854775807) :
    Calls Try.prog 31 #[.agg #[.int .i64 m.next, .slice A m.nodes.length c], .agg #[.int .i64 m'.next, .slice A' m'.nodes.length c']] w fun e w' => e = .returned (.bool (eqB m m')) ∧ Below w.heap.size w w' :=
  asame_any A A' c c' m m' w (FP w p) F2 (fun _ h => h.1) hF2 h h' hl
end
end Go.Proofs.Ytpjkifbicfcajaa
