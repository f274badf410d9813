import Derived.WalkKit
import Derived.WalkLawsBesides
import Derived.WalkSpells
import Derived.Deep.QuietTactic
import Derived.BigQuiet
import Derived.Deep.Draws
import Derived.Deep.LoopGhost
import Derived.Deep.AppendLies
import Derived.Maps.AppendAt
import Derived.Lib.Hide
set_option linter.unusedSimpArgs false
set_option linter.unusedVariables false
namespace Go.Proofs.YtgcbnndbeoekgaaDoor
open Go Go.RowKit

/-! ### What stays as it was, told by a set of blocks -/

/-- the cells of all blocks in F read alike -/
def Keep (F : Nat → Prop) (w w' : World) : Prop := ∀ p : Addr, F p.block → w'.cell? p = w.cell? p

theorem Keep.refl (F : Nat → Prop) (w : World) : Keep F w w := fun _ _ => rfl
theorem Keep.trans {F : Nat → Prop} {a b c : World} (h : Keep F a b) (k : Keep F b c) : Keep F a c := fun p hp => (k p hp).trans (h p hp)
theorem Keep.below {B : Nat} {F : Nat → Prop} {w w' : World} (h : Below B w w') (hF : ∀ b, F b → b < B) : Keep F w w' := fun _p hp => h.cell (hF _ hp)
theorem Keep.grown {F : Nat → Prop} {w w' : World} {row : Option Nat} (h : w.grownBy w' row) (hF : ∀ b, F b → b < w.heap.size ∧ row ≠ some b) : Keep F w w' :=
  fun p hp => World.cell?_of_block (h.block p.block (hF _ hp).1 (fun e => (hF _ hp).2 e.symm))
theorem Keep.alloc {F : Nat → Prop} (w : World) (o : Obj) (hF : ∀ b, F b → b < w.heap.size) : Keep F w (w.alloc o) :=
  Keep.below ((Below.refl w.heap.size w).alloc (Nat.le_refl _) o) hF
theorem Keep.drewN (F : Nat → Prop) (w : World) (n : Nat) : Keep F w (w.drewN n) := fun _ _ => rfl
/-! ### Slices that read as lists -/

/-- a slice value at address A that reads as the list l, each element 'size' cells, told by E; all blocks that it goes through are in F -/
def RowOf {α : Type} (size : Nat) (E : World → (Nat → Prop) → α → List Value → Prop) (w : World) (F : Nat → Prop) (A : Option Addr) (l : List α) : Prop :=
  (l ≠ [] → ∃ b off, A = some ⟨b, off, none⟩ ∧ F b) ∧
  ∀ i (h : i < l.length), ∃ cs, cs.length = size ∧ E w F l[i] cs ∧ ∀ b off, A = some ⟨b, off, none⟩ → ∀ j, j < size → w.cell? ⟨b, off + i * size + j, none⟩ = cs[j]?

def IsRow {α : Type} (size : Nat) (E : World → (Nat → Prop) → α → List Value → Prop) (w : World) (F : Nat → Prop) (v : Value) (l : List α) : Prop :=
  ∃ A c, v = .slice A l.length c ∧ l.length ≤ c ∧ c ≤ maxLen ∧ RowOf size E w F A l

/-- a telling that stays where its blocks stay -/
def Stays {α : Type} (E : World → (Nat → Prop) → α → List Value → Prop) : Prop :=
  ∀ (w w' : World) (F F' : Nat → Prop) x cs, (∀ b, F b → F' b) → Keep F w w' → E w F x cs → E w' F' x cs

section
variable {α : Type} {size : Nat} {E : World → (Nat → Prop) → α → List Value → Prop} {w w' : World} {F F' : Nat → Prop} {A : Option Addr} {v : Value} {l : List α}

theorem RowOf.keep (hE : Stays E) (hk : Keep F w w') (hF : ∀ b, F b → F' b) (h : RowOf size E w F A l) : RowOf size E w' F' A l := by
  refine ⟨fun hn => ?_, fun i hi => ?_⟩
  · obtain ⟨b, off, e, hb⟩ := h.1 hn
    exact ⟨b, off, e, hF b hb⟩
  · obtain ⟨cs, hl, hx, hc⟩ := h.2 i hi
    refine ⟨cs, hl, hE _ _ _ _ _ _ hF hk hx, fun b off e j hj => ?_⟩
    have hb : F b := by
      obtain ⟨b', off', e', hb'⟩ := h.1 (by intro hn; subst hn; simp at hi)
      rw [e] at e'; cases e'; exact hb'
    rw [hk ⟨b, off + i * size + j, none⟩ hb]
    exact hc b off e j hj
theorem IsRow.keep (hE : Stays E) (hk : Keep F w w') (hF : ∀ b, F b → F' b) (h : IsRow size E w F v l) : IsRow size E w' F' v l := by
  obtain ⟨A, c, e, h1, h2, h3⟩ := h
  exact ⟨A, c, e, h1, h2, h3.keep hE hk hF⟩
theorem Stays.row (hE : Stays E) (size : Nat) : ∀ (w w' : World) (F F' : Nat → Prop) (v : Value) (l : List α), (∀ b, F b → F' b) → Keep F w w' → IsRow size E w F v l → IsRow size E w' F' v l :=
  fun _ _ _ _ _ _ hF hk h => h.keep hE hk hF
theorem RowOf.nil (A : Option Addr) : RowOf size E w F A [] := ⟨fun h => absurd rfl h, fun i hi => absurd hi (by simp)⟩
theorem IsRow.nil : IsRow size E w F (.slice none 0 0) [] := ⟨none, 0, rfl, Nat.le_refl _, Nat.zero_le _, RowOf.nil _⟩

/-- the cells of a flat row, one after the other -/
theorem flat_get {f : α → List Value} (hf : ∀ x, (f x).length = size) : ∀ (l : List α) (j : Nat) (u : Value), (l.flatMap f)[j]? = some u → ∃ i, ∃ h : i < l.length, ∃ k, k < size ∧ j = i * size + k ∧ (f l[i])[k]? = some u := by
  intro l
  induction l with
  | nil => intro j u h; simp at h
  | cons x r ih =>
    intro j u h
    rw [List.flatMap_cons] at h
    by_cases hj : j < size
    · rw [List.getElem?_append_left (by rw [hf]; exact hj)] at h
      exact ⟨0, by simp, j, hj, by omega, h⟩
    · rw [List.getElem?_append_right (by rw [hf]; omega), hf] at h
      obtain ⟨i, hi, k, hk, e, hu⟩ := ih _ u h
      exact ⟨i + 1, by simpa using hi, k, hk, by rw [Nat.add_mul]; omega, hu⟩
theorem add_some (b off n : Nat) : (⟨b, off, none⟩ : Addr).add n = ⟨b, off + n, none⟩ := by
  unfold Addr.add; split <;> simp_all
theorem RowOf.flat {f : α → List Value} (hf : ∀ x, (f x).length = size) (h : RowOf size (fun _ _ x cs => cs = f x) w F A l) {ad : Addr} (hA : A = some ad) : ∀ j u, (l.flatMap f)[j]? = some u → w.cell? (ad.add j) = some u := by
  intro j u hu
  obtain ⟨i, hi, k, hk, rfl, hv⟩ := flat_get hf l j u hu
  obtain ⟨b, off, e, _⟩ := h.1 (by intro hn; subst hn; simp at hi)
  obtain ⟨cs, _, rfl, hc⟩ := h.2 i hi
  subst hA
  cases e
  rw [add_some, ← Nat.add_assoc, hc b off rfl k hk]
  exact hv
end

/-! ### Rows of the call's own, element by element -/

/-- blocks of F that are there, but for v's own -/
def Oth (F : Nat → Prop) (w : World) (v : Value) (b : Nat) : Prop := F b ∧ b < w.heap.size ∧ v.ownBlock ≠ some b

def OwnRow {α : Type} (size : Nat) (e : TypeId) (E : World → (Nat → Prop) → α → List Value → Prop) (F : Nat → Prop) (w : World) (base : Nat) (v : Value) (l : List α) : Prop :=
  ∃ css : List (List Value), css.length = l.length ∧ (∀ cs ∈ css, cs.length = size) ∧ w.ownsRow base e size v l.length css.flatten ∧
    ∀ i (h : i < l.length) (h' : i < css.length), E w (Oth F w v) l[i] css[i]

section
variable {α : Type} {size : Nat} {e : TypeId} {E : World → (Nat → Prop) → α → List Value → Prop} {w w' : World} {F F' : Nat → Prop} {base : Nat} {v v' : Value} {l : List α}

theorem OwnRow.nil (w : World) (base : Nat) : OwnRow size e E F w base (.slice none 0 0) [] :=
  ⟨[], rfl, fun _ h => by simp at h, World.ownsRow_nil _ _ _ _, fun i h => absurd h (by simp)⟩

/-- behind whatever lets the row and its elements' blocks stand -/
theorem OwnRow.kept {row : Option Nat} (hE : Stays E) (h : OwnRow size e E F w base v l) (hg : w.grownBy w' row) (hne : v.ownBlock = none ∨ v.ownBlock ≠ row) (hF : ∀ b, F b → b < w.heap.size → row ≠ some b) : OwnRow size e E F w' base v l := by
  obtain ⟨css, h1, h2, h3, h4⟩ := h
  refine ⟨css, h1, h2, h3.kept hg hne, fun i hi hi' => hE _ _ _ _ _ _ ?_ (Keep.grown hg ?_) (h4 i hi hi')⟩
  · exact fun b ⟨a1, a2, a3⟩ => ⟨a1, Nat.lt_of_lt_of_le a2 hg.size, a3⟩
  · exact fun b ⟨a1, a2, a3⟩ => ⟨a2, hF b a1 a2⟩
theorem OwnRow.alloc (hE : Stays E) (h : OwnRow size e E F w base v l) (o : Obj) : OwnRow size e E F (w.alloc o) base v l :=
  h.kept (row := none) hE (World.grownBy_alloc w o none) (by cases hv : v.ownBlock <;> simp) (fun _ _ _ => by simp)
theorem OwnRow.below (hE : Stays E) (h : OwnRow size e E F w base v l) (hb : Below w.heap.size w w') : OwnRow size e E F w' base v l :=
  h.kept (row := none) hE ⟨hb.os, hb.tape, hb.output, hb.size, fun k hk _ => hb.block k hk⟩ (by cases hv : v.ownBlock <;> simp) (fun _ _ _ => by simp)
theorem OwnRow.drewN (h : OwnRow size e E F w base v l) (hE : Stays E) (n : Nat) : OwnRow size e E F (w.drewN n) base v l := by
  obtain ⟨css, h1, h2, h3, h4⟩ := h
  exact ⟨css, h1, h2, h3, fun i hi hi' => hE _ _ _ _ _ _ (fun b hb => hb) (Keep.drewN _ _ _) (h4 i hi hi')⟩

/-- one element more, behind the append -/
theorem OwnRow.push (hE : Stays E) {css : List (List Value)} (h1 : css.length = l.length) (h2 : ∀ cs ∈ css, cs.length = size) (h4 : ∀ i (h : i < l.length) (h' : i < css.length), E w (Oth F w v) l[i] css[i])
    {x : α} {cs : List Value} (hcs : cs.length = size) (hx : E w (Oth F w v) x cs) (ho : w'.ownsRow base e size v' (l.length + 1) (css.flatten ++ cs)) (hg : w.grownBy w' v.ownBlock) (hat : v'.ownBlock = v.ownBlock ∨ v'.ownBlock = some w.heap.size) :
    OwnRow size e E F w' base v' (l ++ [x]) := by
  have hF : ∀ b, Oth F w v b → Oth F w' v' b := fun b ⟨a1, a2, a3⟩ => ⟨a1, Nat.lt_of_lt_of_le a2 hg.size, by
    rcases hat with e' | e' <;> rw [e']
    · exact a3
    · intro e''; cases e''; omega⟩
  have hK : Keep (Oth F w v) w w' := Keep.grown hg fun b ⟨_, a2, a3⟩ => ⟨a2, a3⟩
  refine ⟨css ++ [cs], by simp [h1], ?_, by simpa using ho, fun i hi hi' => ?_⟩
  · intro c hc
    rcases List.mem_append.1 hc with hc | hc
    · exact h2 c hc
    · simp at hc; subst hc; exact hcs
  · by_cases hlt : i < l.length
    · rw [List.getElem_append_left hlt, List.getElem_append_left (by omega)]
      exact hE _ _ _ _ _ _ hF hK (h4 i hlt (by omega))
    · have hi2 : i = l.length := by simp at hi; omega
      subst hi2
      rw [List.getElem_append_right (by omega), List.getElem_append_right (by omega)]
      simp only [h1, Nat.sub_self, List.getElem_cons_zero]
      exact hE _ _ _ _ _ _ hF hK hx

theorem flatten_take {css : List (List Value)} (h : ∀ cs ∈ css, cs.length = size) {i k : Nat} (hi : i < css.length) (hk : k < size) : css.flatten[i * size + k]? = css[i][k]? := by
  induction css generalizing i with
  | nil => simp at hi
  | cons c r ih =>
    rw [List.flatten_cons]
    have hc := h c (by simp)
    cases i with
    | zero => rw [List.getElem?_append_left (by omega)]; simp
    | succ i =>
      rw [List.getElem?_append_right (by rw [hc, Nat.add_mul]; omega), hc, show (i + 1) * size + k - size = i * size + k by rw [Nat.add_mul]; omega]
      exact ih (fun cs hm => h cs (by simp [hm])) (by simpa using hi)

end

/-! ### A block that is known whole -/
def Blk (w : World) (g : Nat) (t : TypeId) (cs : Array Value) : Prop := w.heap[g]? = some (.cells cs t (0, 0))
section
variable {w w' : World} {g : Nat} {t : TypeId} {cs : Array Value}
theorem Blk.lt (h : Blk w g t cs) : g < w.heap.size := by
  rcases Nat.lt_or_ge g w.heap.size with hlt | hge
  · exact hlt
  · unfold Blk at h; rw [Array.getElem?_eq_none hge] at h; cases h
theorem Blk.cell (h : Blk w g t cs) (i : Nat) : w.cell? ⟨g, i, none⟩ = cs[i]? := cell_of_row w g i cs t (0, 0) h
theorem Blk.frozen (h : Blk w g t cs) (i : Nat) : w.frozen? ⟨g, i, none⟩ = false := by
  unfold Blk at h
  simp [World.frozen?, h]
theorem Blk.new (w : World) (t : TypeId) (cs : Array Value) : Blk (w.alloc (.cells cs t)) w.heap.size t cs := heap_alloc_new w _
theorem Blk.drewN (h : Blk w g t cs) (n : Nat) : Blk (w.drewN n) g t cs := h
theorem Blk.alloc (h : Blk w g t cs) (o : Obj) : Blk (w.alloc o) g t cs := (Below.heap_alloc w o g h.lt).trans h
theorem Blk.set_ (h : Blk w g t cs) (i : Nat) (u : Value) : Blk (w.setCell ⟨g, i, none⟩ u) g t (cs.setIfInBounds i u) := by
  unfold Blk at h ⊢
  simp [World.setCell, Array.getElem?_modify, h]
theorem Blk.far (h : Blk w g t cs) {p : Addr} (hp : g ≠ p.block) (u : Value) : Blk (w.setCell p u) g t cs := (Below.heap_setCell w p u g hp).trans h
theorem Blk.below {B : Nat} (h : Blk w g t cs) (hb : Below B w w') (hg : g < B) : Blk w' g t cs := (hb.block g hg).trans h
theorem Blk.grown {row : Option Nat} (h : Blk w g t cs) (hb : w.grownBy w' row) (hg : some g ≠ row) : Blk w' g t cs := (hb.block g h.lt hg).trans h
end
end Go.Proofs.YtgcbnndbeoekgaaDoor
namespace Go.Proofs.YtgcbnndbeoekgaaDoor
open Go Go.RowKit
@[simp] theorem size_setCell (w : World) (p : Addr) (u : Value) : (w.setCell p u).heap.size = w.heap.size := by simp [World.setCell]
end Go.Proofs.YtgcbnndbeoekgaaDoor
namespace Go.Proofs.YtgcbnndbeoekgaaDoor
open Go Go.RowKit

/-! ### Flat rows: an element's cells are a function of it -/
def EFlat {α : Type} (f : α → List Value) : World → (Nat → Prop) → α → List Value → Prop := fun _ _ x cs => cs = f x
theorem EFlat.stays {α : Type} (f : α → List Value) : Stays (EFlat f) := fun _ _ _ _ _ _ _ _ h => h

section
variable {α : Type} {size : Nat} {f : α → List Value} {w : World} {F : Nat → Prop} {base : Nat} {e : TypeId} {v : Value} {l : List α}
end

section
variable {P : Program} (w : World)
theorem own_shape {w : World} {base : Nat} {e : TypeId} {size : Nat} {v : Value} {n : Nat} {xs : List Value} (h : w.ownsRow base e size v n xs) : ∃ A c, v = .slice A n c := by
  rcases h.2 with ⟨rfl, rfl⟩ | ⟨g, cap, cur, rfl, _⟩
  · exact ⟨none, 0, rfl⟩
  · exact ⟨_, _, rfl⟩
end

end Go.Proofs.YtgcbnndbeoekgaaDoor
