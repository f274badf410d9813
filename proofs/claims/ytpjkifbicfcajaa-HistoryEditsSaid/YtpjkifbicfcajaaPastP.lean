import Derived.Test.YtpjkifbicfcajaaHData
import Derived.Test.YtpjkifbicfcajaaACheck
import Derived.Test.YtpjkifbicfcajaaASame
import Derived.Test.YtpjkifbicfcajaaMutK
set_option linter.unusedSimpArgs false
set_option linter.unusedVariables false
/- pasts: what is done with them, and how they lie in memory -/
namespace Go.Proofs.Ytpjkifbicfcajaa
open Go Go.RowKit

structure APast where
  ahead : List AModel
  here : AModel
  behind : List AModel
def APast.list (p : APast) : List AModel := p.ahead ++ p.here :: p.behind
def APast.Fits (p : APast) : Prop := p.list.length ≤ 65
theorem APast.list_len (p : APast) : p.list.length = p.ahead.length + 1 + p.behind.length := by unfold APast.list; simp; omega
theorem APast.list_here (p : APast) : p.list[p.ahead.length]? = some p.here := by unfold APast.list; simp
open Classical in
noncomputable def pushP (p : APast) (m : AModel) : Int × APast :=
  if checkI m ≠ 0 then (checkI m, p) else if m = p.here then (0, p) else (0, ⟨if p.ahead.length + 1 > 64 then (p.ahead ++ [p.here]).tail else p.ahead ++ [p.here], m, []⟩)
def undoP (p : APast) : Int × APast := match p.ahead.getLast? with | none => (270, p) | some m => (0, ⟨p.ahead.dropLast, m, p.here :: p.behind⟩)
def redoP (p : APast) : Int × APast := match p.behind with | [] => (270, p) | m :: r => (0, ⟨p.ahead ++ [p.here], m, r⟩)
theorem pushP_fits {p : APast} (m : AModel) (h : p.Fits) : (pushP p m).2.Fits := by
  unfold pushP
  split
  · exact h
  · split
    · exact h
    · unfold APast.Fits at *
      rw [APast.list_len] at *
      simp only [List.length_nil]
      split
      · rw [List.length_tail, List.length_append]; simp; omega
      · rw [List.length_append]; simp; omega
theorem undoP_list (p : APast) : (undoP p).2.list = p.list := by
  unfold undoP
  cases h : p.ahead.getLast? with
  | none => rfl
  | some m =>
    obtain ⟨ys, hy⟩ := List.getLast?_eq_some_iff.1 h
    unfold APast.list
    simp [hy]
theorem redoP_list (p : APast) : (redoP p).2.list = p.list := by
  unfold redoP
  cases h : p.behind with
  | nil => simp
  | cons m r => unfold APast.list; simp [h]

/-- a past of the program's in memory: its box p; the models in blocks of F -/
def IsPast (w : World) (F : Nat → Prop) (p : Nat) (P : APast) : Prop :=
  ∃ A c, Blk w p 69 #[.slice A P.list.length c, .int .i64 P.ahead.length] ∧ P.list.length ≤ c ∧ c ≤ maxLen ∧ RowOf 2 EModel w F A P.list
/-- a past of the document's -/
def IsRPast (w : World) (F : Nat → Prop) (q : Nat) (P : APast) : Prop :=
  ∃ A n c x A' n' c', Blk w q 49 #[.slice A n c, .int .i64 P.here.next, x, .slice A' n' c'] ∧ IsRow 2 EModel w F (.slice A n c) P.ahead ∧ IsRow 7 ENode w F x P.here.nodes ∧ IsRow 2 EModel w F (.slice A' n' c') P.behind
section
variable {w w' : World} {F F' : Nat → Prop} {p : Nat} {P : APast}
theorem IsPast.lt (h : IsPast w F p P) : p < w.heap.size := let ⟨_, _, h, _⟩ := h; h.lt
theorem IsRPast.lt (h : IsRPast w F p P) : p < w.heap.size := let ⟨_, _, _, _, _, _, _, h, _⟩ := h; h.lt
theorem IsPast.keep (h : IsPast w F p P) (hk : Keep F w w') (hF : ∀ b, F b → F' b) (hp : w'.heap[p]? = w.heap[p]?) : IsPast w' F' p P := by
  obtain ⟨A, c, h1, h2, h3, h4⟩ := h
  exact ⟨A, c, hp.trans h1, h2, h3, h4.keep EModel.stays hk hF⟩
theorem IsRPast.keep (h : IsRPast w F p P) (hk : Keep F w w') (hF : ∀ b, F b → F' b) (hp : w'.heap[p]? = w.heap[p]?) : IsRPast w' F' p P := by
  obtain ⟨A, n, c, x, A', n', c', h1, h2, h3, h4⟩ := h
  exact ⟨A, n, c, x, A', n', c', hp.trans h1, h2.keep EModel.stays hk hF, h3.keep ENode.stays hk hF, h4.keep EModel.stays hk hF⟩
theorem IsPast.below (h : IsPast w F p P) (hb : Below w.heap.size w w') (hF : ∀ b, F b → b < w.heap.size) : IsPast w' F p P := h.keep (Keep.below hb hF) (fun _ h => h) (hb.block p h.lt)
theorem IsRPast.below (h : IsRPast w F p P) (hb : Below w.heap.size w w') (hF : ∀ b, F b → b < w.heap.size) : IsRPast w' F p P := h.keep (Keep.below hb hF) (fun _ h => h) (hb.block p h.lt)
end
theorem KeepO.keep {O F : Nat → Prop} {w w' : World} (h : KeepO O w w') (hF : ∀ b, F b → b < w.heap.size ∧ ¬ O b) : Keep F w w' := fun q hq => World.cell?_of_block (h.block q.block (hF _ hq).1 (hF _ hq).2)
/-- a model in a row: its two cells -/
theorem model_at {w : World} {F : Nat → Prop} {A : Option Addr} {l : List AModel} (h : RowOf 2 EModel w F A l) {i : Nat} (hi : i < l.length) :
    ∃ b off S c, A = some ⟨b, off, none⟩ ∧ F b ∧ w.cell? ⟨b, off + i * 2, none⟩ = some (.int .i64 l[i].next) ∧ w.cell? ⟨b, off + i * 2 + 1, none⟩ = some (.slice S l[i].nodes.length c) ∧
      l[i].nodes.length ≤ c ∧ c ≤ maxLen ∧ RowOf 7 ENode w F S l[i].nodes := by
  obtain ⟨b, off, rfl, hb⟩ := h.1 (by intro hn; subst hn; simp at hi)
  obtain ⟨cs, _, ⟨x, hx, S, c, hxs, h1, h2, h3⟩, hc⟩ := h.2 i hi
  have hc := hc b off rfl
  subst hx hxs
  exact ⟨b, off, S, c, rfl, hb, by simpa using hc 0 (by omega), by simpa using hc 1 (by omega), h1, h2, h3⟩
end Go.Proofs.Ytpjkifbicfcajaa
