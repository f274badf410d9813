import Derived.Test.YtmafhaadcjgcbaaHNew
import Derived.ArgAppend
import Derived.Test.YtmafhaadcjgcbaaRowC
import Derived.Test.YtmafhaadcjgcbaaACheck
import Derived.Maps.RangeWalk
import Derived.Maps.OwnSet
import Derived.Sort.OwnSorted
import Derived.Test.YtmafhaadcjgcbaaShelf
import Derived.Sort.OwnSortedInts
import Derived.Test.YtmafhaadcjgcbaaPastP
set_option linter.unusedSimpArgs false
set_option linter.unusedVariables false
section
/- several elements behind a row of the call's own; a row without its first, without its last -/
namespace Go.Proofs.Ytmafhaadcjgcbaa
open Go Go.RowKit

section
variable {α : Type} {size : Nat} {e : TypeId} {E : World → (Nat → Prop) → α → List Value → Prop} {w w' : World} {F F' : Nat → Prop} {base : Nat} {v v' : Value} {l l2 : List α} {P : Program}
theorem OwnRow.many (hE : Stays E) {css : List (List Value)} (h1 : css.length = l.length) (h2 : ∀ cs ∈ css, cs.length = size) (h4 : ∀ i (h : i < l.length) (h' : i < css.length), E w (Oth F w v) l[i] css[i])
    {cs2 : List (List Value)} (k1 : cs2.length = l2.length) (k2 : ∀ cs ∈ cs2, cs.length = size) (k4 : ∀ i (h : i < l2.length) (h' : i < cs2.length), E w (Oth F w v) l2[i] cs2[i])
    (ho : w'.ownsRow base e size v' (l.length + l2.length) (css.flatten ++ cs2.flatten)) (hg : w.grownBy w' v.ownBlock) (hat : v'.ownBlock = v.ownBlock ∨ v'.ownBlock = some w.heap.size) :
    OwnRow size e E F w' base v' (l ++ l2) := by
  have hF : ∀ b, Oth F w v b → Oth F w' v' b := fun b ⟨a1, a2, a3⟩ => ⟨a1, Nat.lt_of_lt_of_le a2 hg.size, by
    rcases hat with e' | e' <;> rw [e']
    · exact a3
    · intro e''; cases e''; omega⟩
  have hK : Keep (Oth F w v) w w' := Keep.grown hg fun b ⟨_, a2, a3⟩ => ⟨a2, a3⟩
  refine ⟨css ++ cs2, by simp [h1, k1], ?_, by simpa using ho, fun i hi hi' => ?_⟩
  · intro c hc
    rcases List.mem_append.1 hc with hc | hc
    · exact h2 c hc
    · exact k2 c hc
  · by_cases hlt : i < l.length
    · rw [List.getElem_append_left hlt, List.getElem_append_left (by omega)]
      exact hE _ _ _ _ _ _ hF hK (h4 i hlt (by omega))
    · rw [List.getElem_append_right (by omega), List.getElem_append_right (by omega)]
      have hi2 : i - l.length < l2.length := by simp at hi; omega
      have := k4 (i - l.length) hi2 (by omega)
      simp only [h1]
      exact hE _ _ _ _ _ _ hF hK this
theorem OwnRow.shape (h : OwnRow size e E F w base v l) : ∃ A c, v = .slice A l.length c := let ⟨_, h⟩ := h.owns; own_shape h
theorem OwnRow.made (t : TypeId) (size : Nat) (w : World) (hb : base ≤ w.heap.size) : OwnRow size t E F (w.alloc (.cells #[] t)) base (.slice (some ⟨w.heap.size, 0, none⟩) 0 0) [] :=
  ⟨[], rfl, fun _ h => by simp at h, World.ownsRow_made (base := base) (e := t) (size := size) w #[] 0 hb (Nat.zero_le _) (by simp), fun i h => absurd h (by simp)⟩
/-- a row of one element, just made -/
theorem OwnRow.one {x : α} {cs : List Value} {g : Nat} {t : TypeId} (hb : Blk w g t cs.toArray) (hg : base ≤ g) (hl : cs.length = size) (hx : E w (Oth F w (.slice (some ⟨g, 0, none⟩) 1 1)) x cs) : OwnRow size t E F w base (.slice (some ⟨g, 0, none⟩) 1 1) [x] := by
  refine ⟨[cs], rfl, fun c hc => by simp at hc; subst hc; exact hl, ⟨by simpa using hl, .inr ⟨g, 1, cs.toArray, rfl, hg, hb, Nat.le_refl _, by unfold maxLen; omega, by simpa using hl, by simp [List.take_of_length_le, hl]⟩⟩, fun i hi hi' => ?_⟩
  have hi0 : i = 0 := by simp at hi; omega
  subst hi0
  exact hx
theorem RowOf.take {A : Option Addr} (h : RowOf size E w F A l) (k : Nat) : RowOf size E w F A (l.take k) := by
  refine ⟨fun hn => h.1 (fun e => hn (by rw [e]; simp)), fun i hi => ?_⟩
  have hil : i < l.length := by rw [List.length_take] at hi; omega
  obtain ⟨cs, h1, h2, h3⟩ := h.2 i hil
  exact ⟨cs, h1, by rw [List.getElem_take]; exact h2, h3⟩
theorem RowOf.tail {b off : Nat} {x : α} (h : RowOf size E w F (some ⟨b, off, none⟩) (x :: l)) : RowOf size E w F (some ⟨b, off + size, none⟩) l := by
  obtain ⟨b', off', e, hb⟩ := h.1 (by simp)
  cases e
  refine ⟨fun _ => ⟨b, off + size, rfl, hb⟩, fun i hi => ?_⟩
  obtain ⟨cs, h1, h2, h3⟩ := h.2 (i + 1) (by simpa using hi)
  refine ⟨cs, h1, by simpa using h2, fun b2 off2 e j hj => ?_⟩
  cases e
  rw [← h3 b off rfl j hj]
  congr 2
  rw [Nat.add_mul]; omega
theorem IsRow.row {A : Option Addr} {n c : Nat} (h : IsRow size E w F (.slice A n c) l) : RowOf size E w F A l := by
  obtain ⟨A', c', e, _, _, h3⟩ := h
  injection e with e1 _ _
  subst e1
  exact h3
end
theorem EModel.one {w : World} {F : Nat → Prop} {m : AModel} {cs : List Value} (h : EModel w F m cs) : ∀ u ∈ cs, u.oneCell' = true := by
  obtain ⟨x, rfl, A, c, rfl, _⟩ := h
  intro u hu
  simp only [List.mem_cons, List.not_mem_nil, or_false] at hu
  rcases hu with rfl | rfl <;> rfl
end Go.Proofs.Ytmafhaadcjgcbaa
end
section
/- the nodes in which two models differ: plain -/
namespace Go.Proofs.Ytmafhaadcjgcbaa
open Go Go.RowKit

end Go.Proofs.Ytmafhaadcjgcbaa
end
section
/- a map of nodes by their numbers -/
namespace Go.Proofs.Ytmafhaadcjgcbaa
open Go Go.RowKit Go.Maps

def kI (id : Int) : Lit := .int .i64 id
theorem kI_ne {a b : Int} (h : a ≠ b) : kI a ≠ kI b := fun e => h (by injection e)
theorem kI_same (a b : Int) : (kI a).sameKey (kI b) = decide (a = b) := by
  by_cases h : a = b
  · subst h; simp [kI, Lit.sameKey]
  · rw [sameKey_ne (kI_ne h)]; simp [h]
/-- the map of a list's nodes, but for some numbers -/
structure MapOf (D : DataW Value) (l : List LN) (dl : List Int) : Prop where
  isMap : IsMap D
  has_ : ∀ id : Int, Maps.has D (kI id) = true ↔ (∃ x ∈ l, x.n.id = id) ∧ id ∉ dl
  at_ : ∀ x ∈ l, x.n.id ∉ dl → ∀ z, D.atKey (kI x.n.id) z = .held (.agg x.cells.toArray)
theorem MapOf.start : MapOf (.map []) [] [] := ⟨isMap_empty, fun id => by simp [Maps.has], fun x hx => by simp at hx⟩
theorem MapOf.put {D : DataW Value} {l : List LN} (h : MapOf D l []) (x : LN) (hx : ∀ y ∈ l, y.n.id ≠ x.n.id) : MapOf (D.put (kI x.n.id) (.held (.agg x.cells.toArray))) (l ++ [x]) [] := by
  refine ⟨h.isMap.put _ _, fun id => ?_, fun y hy _ z => ?_⟩
  · by_cases e : id = x.n.id
    · subst e
      rw [has_put_same h.isMap (show WideAt.IsKeyLit (kI x.n.id) from trivial)]
      simp
    · rw [has_put_other (kI_ne e), h.has_]
      simp only [List.mem_append, List.mem_cons, List.not_mem_nil, or_false, not_false_eq_true, and_true]
      constructor
      · rintro ⟨y, hy, e2⟩; exact ⟨y, .inl hy, e2⟩
      · rintro ⟨y, hy | rfl, e2⟩
        · exact ⟨y, hy, e2⟩
        · exact absurd e2.symm e
  · rcases List.mem_append.1 hy with hy | hy
    · rw [atKey_put_other (kI_ne (hx y hy))]
      exact h.at_ y hy (by simp) z
    · simp only [List.mem_cons, List.not_mem_nil, or_false] at hy
      subst hy
      exact atKey_put_same h.isMap (show WideAt.IsKeyLit (kI y.n.id) from trivial) _ _
/-- the keys that have come -/
def Coll (D : DataW Value) (left : Lit → Bool) (cs : List Int) : Prop := cs.Nodup ∧ ∀ id : Int, id ∈ cs ↔ Maps.has D (kI id) = true ∧ left (kI id) = false
theorem Coll.start (D : DataW Value) : Coll D (Maps.has D) [] := ⟨List.nodup_nil, fun id => by simp⟩
theorem Coll.step {D : DataW Value} {left : Lit → Bool} {cs : List Int} (h : Coll D left cs) {x : Int} (hl : left (kI x) = true) (hd : Maps.has D (kI x) = true) : Coll D (fun z => left z && !z.sameKey (kI x)) (cs ++ [x]) := by
  refine ⟨List.nodup_append.2 ⟨h.1, by simp, fun a ha b hb e => ?_⟩, fun id => ?_⟩
  · simp at hb; subst hb; subst e
    have := ((h.2 a).1 ha).2
    rw [hl] at this; cases this
  · show id ∈ cs ++ [x] ↔ Maps.has D (kI id) = true ∧ (left (kI id) && !(kI id).sameKey (kI x)) = false
    rw [List.mem_append, h.2, kI_same]
    by_cases e : id = x
    · subst e; simp [hd]
    · simp [e]
section
variable {ops : Array Oper} {rest : List Oper} {o : Oper} {a : Act} {Q : Exit → Act → World → Prop}
end
end Go.Proofs.Ytmafhaadcjgcbaa
end
section
/- a list of numbers of the call's own is sorted -/
namespace Go.Proofs.Ytmafhaadcjgcbaa
open Go Go.RowKit Go.Sort

end Go.Proofs.Ytmafhaadcjgcbaa
end
section
/- two nodes are the same, but for their numbers -/
namespace Go.Proofs.Ytmafhaadcjgcbaa
open Go Go.RowKit

end Go.Proofs.Ytmafhaadcjgcbaa
end
section
/- history.Touched -/
namespace Go.Proofs.Ytmafhaadcjgcbaa
open Go Go.RowKit Go.Maps

theorem LN.Reads.rows {w : World} {F : Nat → Prop} {n : ANode} {A B C : Option Addr} {i j k ca cb cc : Nat} (h : LN.Reads w F ⟨n, .slice A i ca, .slice B j cb, .slice C k cc⟩) : RowOf 2 EProp w F A n.props ∧ RowOf 1 EInt w F B n.kids ∧ RowOf 2 ERef w F C n.refs := ⟨IsRow.row h.1, IsRow.row h.2.1, IsRow.row h.2.2⟩
end Go.Proofs.Ytmafhaadcjgcbaa
end
