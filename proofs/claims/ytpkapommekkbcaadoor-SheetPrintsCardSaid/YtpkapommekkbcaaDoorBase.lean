import Derived.WalkKit
import Derived.WalkLawsBesides
import Derived.WalkSpells
import Derived.Deep.QuietTactic
import Derived.BigQuiet
import Derived.Deep.Draws
import Derived.Deep.LoopGhost
import Derived.Deep.AppendLies
import Derived.Maps.AppendAt
import Derived.Lib.Hide
set_option linter.unusedSimpArgs false
set_option linter.unusedVariables false
namespace Go.Proofs.YtpkapommekkbcaaDoor
open Go Go.RowKit

/-! ### What stays as it was, told by a set of blocks -/

/-- the cells of all blocks in F read alike -/
def Keep (F : Nat → Prop) (w w' : World) : Prop := ∀ p : Addr, F p.block → w'.cell? p = w.cell? p

theorem Keep.refl (F : Nat → Prop) (w : World) : Keep F w w := fun _ _ => rfl
theorem Keep.trans {F : Nat → Prop} {a b c : World} (h : Keep F a b) (k : Keep F b c) : Keep F a c := fun p hp => (k p hp).trans (h p hp)
theorem Keep.less {F G : Nat → Prop} {w w' : World} (h : Keep F w w') (hG : ∀ b, G b → F b) : Keep G w w' := fun p hp => h p (hG _ hp)
theorem Keep.below {B : Nat} {F : Nat → Prop} {w w' : World} (h : Below B w w') (hF : ∀ b, F b → b < B) : Keep F w w' := fun _p hp => h.cell (hF _ hp)
theorem Keep.grown {F : Nat → Prop} {w w' : World} {row : Option Nat} (h : w.grownBy w' row) (hF : ∀ b, F b → b < w.heap.size ∧ row ≠ some b) : Keep F w w' :=
  fun p hp => World.cell?_of_block (h.block p.block (hF _ hp).1 (fun e => (hF _ hp).2 e.symm))
theorem Keep.alloc {F : Nat → Prop} (w : World) (o : Obj) (hF : ∀ b, F b → b < w.heap.size) : Keep F w (w.alloc o) :=
  Keep.below ((Below.refl w.heap.size w).alloc (Nat.le_refl _) o) hF
theorem Keep.drewN (F : Nat → Prop) (w : World) (n : Nat) : Keep F w (w.drewN n) := fun _ _ => rfl
theorem Keep.drew (F : Nat → Prop) (w : World) : Keep F w w.drew := fun _ _ => rfl

/-! ### Slices that read as lists -/

/-- a slice value at address A that reads as the list l, each element 'size' cells, told by E; all blocks that it goes through are in F -/
def RowOf {α : Type} (size : Nat) (E : World → (Nat → Prop) → α → List Value → Prop) (w : World) (F : Nat → Prop) (A : Option Addr) (l : List α) : Prop :=
  (l ≠ [] → ∃ b off, A = some ⟨b, off, none⟩ ∧ F b) ∧
  ∀ i (h : i < l.length), ∃ cs, cs.length = size ∧ E w F l[i] cs ∧ ∀ b off, A = some ⟨b, off, none⟩ → ∀ j, j < size → w.cell? ⟨b, off + i * size + j, none⟩ = cs[j]?

def IsRow {α : Type} (size : Nat) (E : World → (Nat → Prop) → α → List Value → Prop) (w : World) (F : Nat → Prop) (v : Value) (l : List α) : Prop :=
  ∃ A c, v = .slice A l.length c ∧ l.length ≤ c ∧ c ≤ maxLen ∧ RowOf size E w F A l

/-- a telling that stays where its blocks stay -/
def Stays {α : Type} (E : World → (Nat → Prop) → α → List Value → Prop) : Prop :=
  ∀ (w w' : World) (F F' : Nat → Prop) x cs, (∀ b, F b → F' b) → Keep F w w' → E w F x cs → E w' F' x cs

section
variable {α : Type} {size : Nat} {E : World → (Nat → Prop) → α → List Value → Prop} {w w' : World} {F F' : Nat → Prop} {A : Option Addr} {v : Value} {l : List α}

theorem RowOf.keep (hE : Stays E) (hk : Keep F w w') (hF : ∀ b, F b → F' b) (h : RowOf size E w F A l) : RowOf size E w' F' A l := by
  refine ⟨fun hn => ?_, fun i hi => ?_⟩
  · obtain ⟨b, off, e, hb⟩ := h.1 hn
    exact ⟨b, off, e, hF b hb⟩
  · obtain ⟨cs, hl, hx, hc⟩ := h.2 i hi
    refine ⟨cs, hl, hE _ _ _ _ _ _ hF hk hx, fun b off e j hj => ?_⟩
    have hb : F b := by
      obtain ⟨b', off', e', hb'⟩ := h.1 (by intro hn; subst hn; simp at hi)
      rw [e] at e'; cases e'; exact hb'
    rw [hk ⟨b, off + i * size + j, none⟩ hb]
    exact hc b off e j hj
theorem IsRow.keep (hE : Stays E) (hk : Keep F w w') (hF : ∀ b, F b → F' b) (h : IsRow size E w F v l) : IsRow size E w' F' v l := by
  obtain ⟨A, c, e, h1, h2, h3⟩ := h
  exact ⟨A, c, e, h1, h2, h3.keep hE hk hF⟩
theorem Stays.row (hE : Stays E) (size : Nat) : ∀ (w w' : World) (F F' : Nat → Prop) (v : Value) (l : List α), (∀ b, F b → F' b) → Keep F w w' → IsRow size E w F v l → IsRow size E w' F' v l :=
  fun _ _ _ _ _ _ hF hk h => h.keep hE hk hF
theorem RowOf.nil (A : Option Addr) : RowOf size E w F A [] := ⟨fun h => absurd rfl h, fun i hi => absurd hi (by simp)⟩
theorem IsRow.nil : IsRow size E w F (.slice none 0 0) [] := ⟨none, 0, rfl, Nat.le_refl _, Nat.zero_le _, RowOf.nil _⟩

/-- the cells of a flat row, one after the other -/
theorem flat_get {f : α → List Value} (hf : ∀ x, (f x).length = size) : ∀ (l : List α) (j : Nat) (u : Value), (l.flatMap f)[j]? = some u → ∃ i, ∃ h : i < l.length, ∃ k, k < size ∧ j = i * size + k ∧ (f l[i])[k]? = some u := by
  intro l
  induction l with
  | nil => intro j u h; simp at h
  | cons x r ih =>
    intro j u h
    rw [List.flatMap_cons] at h
    by_cases hj : j < size
    · rw [List.getElem?_append_left (by rw [hf]; exact hj)] at h
      exact ⟨0, by simp, j, hj, by omega, h⟩
    · rw [List.getElem?_append_right (by rw [hf]; omega), hf] at h
      obtain ⟨i, hi, k, hk, e, hu⟩ := ih _ u h
      exact ⟨i + 1, by simpa using hi, k, hk, by rw [Nat.add_mul]; omega, hu⟩
theorem flat_length {f : α → List Value} (hf : ∀ x, (f x).length = size) : ∀ l : List α, (l.flatMap f).length = l.length * size := by
  intro l
  induction l with
  | nil => simp
  | cons x r ih => rw [List.flatMap_cons, List.length_append, hf, ih, List.length_cons, Nat.add_mul]; omega
theorem add_some (b off n : Nat) : (⟨b, off, none⟩ : Addr).add n = ⟨b, off + n, none⟩ := by
  unfold Addr.add; split <;> simp_all
theorem RowOf.flat {f : α → List Value} (hf : ∀ x, (f x).length = size) (h : RowOf size (fun _ _ x cs => cs = f x) w F A l) {ad : Addr} (hA : A = some ad) : ∀ j u, (l.flatMap f)[j]? = some u → w.cell? (ad.add j) = some u := by
  intro j u hu
  obtain ⟨i, hi, k, hk, rfl, hv⟩ := flat_get hf l j u hu
  obtain ⟨b, off, e, _⟩ := h.1 (by intro hn; subst hn; simp at hi)
  obtain ⟨cs, _, rfl, hc⟩ := h.2 i hi
  subst hA
  cases e
  rw [add_some, ← Nat.add_assoc, hc b off rfl k hk]
  exact hv
end

/-! ### Rows of the call's own, element by element -/

/-- blocks of F that are there, but for v's own -/
def Oth (F : Nat → Prop) (w : World) (v : Value) (b : Nat) : Prop := F b ∧ b < w.heap.size ∧ v.ownBlock ≠ some b

def OwnRow {α : Type} (size : Nat) (e : TypeId) (E : World → (Nat → Prop) → α → List Value → Prop) (F : Nat → Prop) (w : World) (base : Nat) (v : Value) (l : List α) : Prop :=
  ∃ css : List (List Value), css.length = l.length ∧ (∀ cs ∈ css, cs.length = size) ∧ w.ownsRow base e size v l.length css.flatten ∧
    ∀ i (h : i < l.length) (h' : i < css.length), E w (Oth F w v) l[i] css[i]

section
variable {α : Type} {size : Nat} {e : TypeId} {E : World → (Nat → Prop) → α → List Value → Prop} {w w' : World} {F F' : Nat → Prop} {base : Nat} {v v' : Value} {l : List α}

theorem OwnRow.nil (w : World) (base : Nat) : OwnRow size e E F w base (.slice none 0 0) [] :=
  ⟨[], rfl, fun _ h => by simp at h, World.ownsRow_nil _ _ _ _, fun i h => absurd h (by simp)⟩

/-- behind whatever lets the row and its elements' blocks stand -/
theorem OwnRow.kept {row : Option Nat} (hE : Stays E) (h : OwnRow size e E F w base v l) (hg : w.grownBy w' row) (hne : v.ownBlock = none ∨ v.ownBlock ≠ row) (hF : ∀ b, F b → b < w.heap.size → row ≠ some b) : OwnRow size e E F w' base v l := by
  obtain ⟨css, h1, h2, h3, h4⟩ := h
  refine ⟨css, h1, h2, h3.kept hg hne, fun i hi hi' => hE _ _ _ _ _ _ ?_ (Keep.grown hg ?_) (h4 i hi hi')⟩
  · exact fun b ⟨a1, a2, a3⟩ => ⟨a1, Nat.lt_of_lt_of_le a2 hg.size, a3⟩
  · exact fun b ⟨a1, a2, a3⟩ => ⟨a2, hF b a1 a2⟩
theorem OwnRow.alloc (hE : Stays E) (h : OwnRow size e E F w base v l) (o : Obj) : OwnRow size e E F (w.alloc o) base v l :=
  h.kept (row := none) hE (World.grownBy_alloc w o none) (by cases hv : v.ownBlock <;> simp) (fun _ _ _ => by simp)
theorem OwnRow.below (hE : Stays E) (h : OwnRow size e E F w base v l) (hb : Below w.heap.size w w') : OwnRow size e E F w' base v l :=
  h.kept (row := none) hE ⟨hb.os, hb.tape, hb.output, hb.size, fun k hk _ => hb.block k hk⟩ (by cases hv : v.ownBlock <;> simp) (fun _ _ _ => by simp)
theorem OwnRow.drew (h : OwnRow size e E F w base v l) (hE : Stays E) : OwnRow size e E F w.drew base v l := by
  obtain ⟨css, h1, h2, h3, h4⟩ := h
  exact ⟨css, h1, h2, h3.drew, fun i hi hi' => hE _ _ _ _ _ _ (fun b hb => hb) (Keep.drew _ _) (h4 i hi hi')⟩
theorem OwnRow.drewN (h : OwnRow size e E F w base v l) (hE : Stays E) (n : Nat) : OwnRow size e E F (w.drewN n) base v l := by
  obtain ⟨css, h1, h2, h3, h4⟩ := h
  exact ⟨css, h1, h2, h3, fun i hi hi' => hE _ _ _ _ _ _ (fun b hb => hb) (Keep.drewN _ _ _) (h4 i hi hi')⟩

theorem OwnRow.owns (h : OwnRow size e E F w base v l) : ∃ xs, w.ownsRow base e size v l.length xs := let ⟨_css, _, _, h3, _⟩ := h; ⟨_, h3⟩

/-- one element more, behind the append -/
theorem OwnRow.push (hE : Stays E) {css : List (List Value)} (h1 : css.length = l.length) (h2 : ∀ cs ∈ css, cs.length = size) (h4 : ∀ i (h : i < l.length) (h' : i < css.length), E w (Oth F w v) l[i] css[i])
    {x : α} {cs : List Value} (hcs : cs.length = size) (hx : E w (Oth F w v) x cs) (ho : w'.ownsRow base e size v' (l.length + 1) (css.flatten ++ cs)) (hg : w.grownBy w' v.ownBlock) (hat : v'.ownBlock = v.ownBlock ∨ v'.ownBlock = some w.heap.size) :
    OwnRow size e E F w' base v' (l ++ [x]) := by
  have hF : ∀ b, Oth F w v b → Oth F w' v' b := fun b ⟨a1, a2, a3⟩ => ⟨a1, Nat.lt_of_lt_of_le a2 hg.size, by
    rcases hat with e' | e' <;> rw [e']
    · exact a3
    · intro e''; cases e''; omega⟩
  have hK : Keep (Oth F w v) w w' := Keep.grown hg fun b ⟨_, a2, a3⟩ => ⟨a2, a3⟩
  refine ⟨css ++ [cs], by simp [h1], ?_, by simpa using ho, fun i hi hi' => ?_⟩
  · intro c hc
    rcases List.mem_append.1 hc with hc | hc
    · exact h2 c hc
    · simp at hc; subst hc; exact hcs
  · by_cases hlt : i < l.length
    · rw [List.getElem_append_left hlt, List.getElem_append_left (by omega)]
      exact hE _ _ _ _ _ _ hF hK (h4 i hlt (by omega))
    · have hi2 : i = l.length := by simp at hi; omega
      subst hi2
      rw [List.getElem_append_right (by omega), List.getElem_append_right (by omega)]
      simp only [h1, Nat.sub_self, List.getElem_cons_zero]
      exact hE _ _ _ _ _ _ hF hK hx

theorem flatten_take {css : List (List Value)} (h : ∀ cs ∈ css, cs.length = size) {i k : Nat} (hi : i < css.length) (hk : k < size) : css.flatten[i * size + k]? = css[i][k]? := by
  induction css generalizing i with
  | nil => simp at hi
  | cons c r ih =>
    rw [List.flatten_cons]
    have hc := h c (by simp)
    cases i with
    | zero => rw [List.getElem?_append_left (by omega)]; simp
    | succ i =>
      rw [List.getElem?_append_right (by rw [hc, Nat.add_mul]; omega), hc, show (i + 1) * size + k - size = i * size + k by rw [Nat.add_mul]; omega]
      exact ih (fun cs hm => h cs (by simp [hm])) (by simpa using hi)

/-- what the call owns reads as the list -/
theorem OwnRow.isRow (hE : Stays E) (hF : ∀ b, F b → b < w.heap.size → F' b) (hb : ∀ b, base ≤ b → b < w.heap.size → F' b) (h : OwnRow size e E F w base v l) : IsRow size E w F' v l := by
  obtain ⟨css, h1, h2, h3, h4⟩ := h
  have hlt := h3.lt
  have hcells := fun g => h3.cells (g := g)
  rcases h3.2 with ⟨rfl, hn⟩ | ⟨g, cap, cur, rfl, hbg, hh, hnc, hcm, _⟩
  · cases l with
    | nil => exact IsRow.nil
    | cons x r => simp at hn
  · refine ⟨some ⟨g, 0, none⟩, cap, rfl, hnc, hcm, fun _ => ⟨g, 0, rfl, hb g (hlt g rfl).1 (hlt g rfl).2⟩, fun i hi => ⟨css[i]'(by omega), h2 _ (List.getElem_mem _), ?_, ?_⟩⟩
    · exact hE _ _ _ _ _ _ (fun b hb => hF b hb.1 hb.2.1) (Keep.refl _ _) (h4 i hi (by omega))
    · intro b off ea j hj
      cases ea
      have hu : (css[i]'(by omega))[j]? = some ((css[i]'(by omega))[j]'(by rw [h2 _ (List.getElem_mem _)]; exact hj)) := List.getElem?_eq_getElem _
      have := hcells g rfl (i * size + j) _ (by rw [flatten_take h2 (by omega) hj]; exact hu)
      rw [add_some] at this
      rw [Nat.zero_add] at this
      rw [Nat.zero_add, this, hu]
end

/-! ### A block that is known whole -/
def Blk (w : World) (g : Nat) (t : TypeId) (cs : Array Value) : Prop := w.heap[g]? = some (.cells cs t (0, 0))
section
variable {w w' : World} {g : Nat} {t : TypeId} {cs : Array Value}
theorem Blk.lt (h : Blk w g t cs) : g < w.heap.size := by
  rcases Nat.lt_or_ge g w.heap.size with hlt | hge
  · exact hlt
  · unfold Blk at h; rw [Array.getElem?_eq_none hge] at h; cases h
theorem Blk.cell (h : Blk w g t cs) (i : Nat) : w.cell? ⟨g, i, none⟩ = cs[i]? := cell_of_row w g i cs t (0, 0) h
theorem Blk.frozen (h : Blk w g t cs) (i : Nat) : w.frozen? ⟨g, i, none⟩ = false := by
  unfold Blk at h
  simp [World.frozen?, h]
theorem Blk.new (w : World) (t : TypeId) (cs : Array Value) : Blk (w.alloc (.cells cs t)) w.heap.size t cs := heap_alloc_new w _
theorem Blk.new' {w : World} {g : Nat} {t : TypeId} {cs : Array Value} (h : g = w.heap.size) : Blk (w.alloc (.cells cs t)) g t cs := by subst h; exact heap_alloc_new w _
theorem Blk.drew (h : Blk w g t cs) : Blk w.drew g t cs := h
theorem Blk.drewN (h : Blk w g t cs) (n : Nat) : Blk (w.drewN n) g t cs := h
theorem Blk.alloc (h : Blk w g t cs) (o : Obj) : Blk (w.alloc o) g t cs := (Below.heap_alloc w o g h.lt).trans h
theorem Blk.set_ (h : Blk w g t cs) (i : Nat) (u : Value) : Blk (w.setCell ⟨g, i, none⟩ u) g t (cs.setIfInBounds i u) := by
  unfold Blk at h ⊢
  simp [World.setCell, Array.getElem?_modify, h]
theorem Blk.far (h : Blk w g t cs) {p : Addr} (hp : g ≠ p.block) (u : Value) : Blk (w.setCell p u) g t cs := (Below.heap_setCell w p u g hp).trans h
theorem Blk.below {B : Nat} (h : Blk w g t cs) (hb : Below B w w') (hg : g < B) : Blk w' g t cs := (hb.block g hg).trans h
theorem Blk.grown {row : Option Nat} (h : Blk w g t cs) (hb : w.grownBy w' row) (hg : some g ≠ row) : Blk w' g t cs := (hb.block g h.lt hg).trans h
end
end Go.Proofs.YtpkapommekkbcaaDoor
namespace Go.Proofs.YtpkapommekkbcaaDoor
open Go Go.RowKit
@[simp] theorem size_setCell (w : World) (p : Addr) (u : Value) : (w.setCell p u).heap.size = w.heap.size := by simp [World.setCell]
end Go.Proofs.YtpkapommekkbcaaDoor
namespace Go.Proofs.YtpkapommekkbcaaDoor
open Go Go.RowKit

/-! ### Flat rows: an element's cells are a function of it -/
def EFlat {α : Type} (f : α → List Value) : World → (Nat → Prop) → α → List Value → Prop := fun _ _ x cs => cs = f x
theorem EFlat.stays {α : Type} (f : α → List Value) : Stays (EFlat f) := fun _ _ _ _ _ _ _ _ h => h

section
variable {α : Type} {size : Nat} {f : α → List Value} {w : World} {F : Nat → Prop} {base : Nat} {e : TypeId} {v : Value} {l : List α}
theorem flat_at (hf : ∀ x, (f x).length = size) : ∀ (l : List α) (i k : Nat) (h : i < l.length), k < size → (l.flatMap f)[i * size + k]? = (f l[i])[k]? := by
  intro l
  induction l with
  | nil => intro i k h; simp at h
  | cons x r ih =>
    intro i k h hk
    rw [List.flatMap_cons]
    cases i with
    | zero => rw [List.getElem?_append_left (by rw [hf]; omega)]; simp
    | succ i =>
      rw [List.getElem?_append_right (by rw [hf, Nat.add_mul]; omega), hf, show (i + 1) * size + k - size = i * size + k by rw [Nat.add_mul]; omega]
      exact ih i k (by simpa using h) hk
/-- a flat row of the call's own reads as its list -/
theorem IsRow.of_own (hf : ∀ x, (f x).length = size) (h : w.ownsRow base e size v l.length (l.flatMap f)) (hF : ∀ b, v.ownBlock = some b → F b) : IsRow size (EFlat f) w F v l := by
  have hcells := fun g => h.cells (g := g)
  rcases h.2 with ⟨rfl, hn⟩ | ⟨g, cap, cur, rfl, hbg, hh, hnc, hcm, _⟩
  · cases l with
    | nil => exact IsRow.nil
    | cons x r => simp at hn
  · refine ⟨some ⟨g, 0, none⟩, cap, rfl, hnc, hcm, fun _ => ⟨g, 0, rfl, hF g rfl⟩, fun i hi => ⟨f l[i], hf _, rfl, ?_⟩⟩
    intro b off ea j hj
    cases ea
    have hu : (f l[i])[j]? = some ((f l[i])[j]'(by rw [hf]; exact hj)) := List.getElem?_eq_getElem _
    have := hcells g rfl (i * size + j) _ (by rw [flat_at hf l i j hi hj]; exact hu)
    rw [add_some] at this
    rw [Nat.zero_add] at this
    rw [Nat.zero_add, this, hu]
theorem RowOf.cellsFrom (hf : ∀ x, (f x).length = size) {A : Option Addr} (h : RowOf size (EFlat f) w F A l) : ∀ ad, A = some ad → ∀ j u, (l.flatMap f)[j]? = some u → w.cell? (ad.add j) = some u :=
  fun _ hA => RowOf.flat hf h hA
theorem RowOf.none_nil {E : World → (Nat → Prop) → α → List Value → Prop} (h : RowOf size E w F none l) : l = [] := by
  cases l with
  | nil => rfl
  | cons x r => obtain ⟨_, _, e, _⟩ := h.1 (by simp); cases e
end

section
variable {P : Program} (w : World)
theorem run_append_of_nil (base : Nat) (t ty e : TypeId) (i : TypeInfo) (size : Nat) (ht : P.underlying t = some (.slice e)) (hi : P.info? e = some i)
    (v : Value) (n : Nat) (xs : List Value) (hown : w.ownsRow base e size v n xs) (c : Nat) : (Builtin.append_ #[t, t] ty #[v, .slice none 0 c]).run P w = .ok v w := by
  rcases hown.2 with ⟨rfl, rfl⟩ | ⟨g, cap, cur, rfl, _, _, hnc, _⟩
  · simp [Builtin.append_, run_underlying ht, sizeOf, typeInfo, hi, Builtin.lenOf, Builtin.firstCells]
  · simp [Builtin.append_, run_underlying ht, sizeOf, typeInfo, hi, Builtin.lenOf, Builtin.firstCells, hnc, storeCells]

theorem own_shape {w : World} {base : Nat} {e : TypeId} {size : Nat} {v : Value} {n : Nat} {xs : List Value} (h : w.ownsRow base e size v n xs) : ∃ A c, v = .slice A n c := by
  rcases h.2 with ⟨rfl, rfl⟩ | ⟨g, cap, cur, rfl, _⟩
  · exact ⟨none, 0, rfl⟩
  · exact ⟨_, _, rfl⟩
/-- 'append(v, xs...)', v a row of the call's own, the source whatever slice whose cells are known -/
theorem run_append_from (base : Nat) (t ty e : TypeId) (i : TypeInfo) (z : Value) (size bytes : Nat) (ht : P.underlying t = some (.slice e)) (hi : P.info? e = some i) (hz : i.zero = some z)
    (hsize : i.size = size) (hby : i.bytes = bytes) (hzs : z.cells.size = size) (hsz : 0 < size)
    (v : Value) (n : Nat) (xs : List Value) (hown : w.ownsRow base e size v n xs)
    (A : Option Addr) (m c : Nat) (news : List Value) (hl : news.length = m * size) (hnone : A = none → m = 0) (hcells : ∀ ad, A = some ad → ∀ j u, news[j]? = some u → w.cell? (ad.add j) = some u) (h1 : ∀ u ∈ news, u.oneCell' = true)
    (h63 : n + m ≤ maxLen) (hbytes : (n + m) * bytes ≤ 140737488355328) (hbase : base ≤ w.heap.size) :
    ∃ v' w', (Builtin.append_ #[t, t] ty #[v, .slice A m c]).run P w = .ok v' w' ∧ w'.ownsRow base e size v' (n + m) (xs ++ news) ∧ w.grownBy w' v.ownBlock ∧
      (v'.ownBlock = v.ownBlock ∨ v'.ownBlock = some w.heap.size) := by
  rcases A with _ | ad
  · obtain rfl := hnone rfl
    have hn : news = [] := List.eq_nil_of_length_eq_zero (by simpa using hl)
    subst hn
    exact ⟨v, w, run_append_of_nil w base t ty e i size ht hi v n xs hown c, by simpa using hown, World.grownBy.refl w _, .inl rfl⟩
  · obtain ⟨v', w', hrun, h2, h3, _, h5⟩ := run_append_own_at (P := P) w base t ty e i z size bytes ht hi hz hsize hby hzs hsz v n xs hown ad m c news hl (hcells ad rfl) h1 h63 hbytes hbase
    exact ⟨v', w', hrun, h2, h3, h5⟩

theorem wp_append_from {o : Oper} {a : Act} {K : Act → World → Prop} {Q : Exit → Act → World → Prop} (s x : Operand) (t : TypeId)
    (ho : o.op = .call { callee := .builtin .append, args := #[s, x], argTypes := #[t, t] })
    (base : Nat) (e : TypeId) {z : Value} {size bytes : Nat} (ht : P.underlying t = some (.slice e)) (hinfo : (P.info? e).map (fun i => (i.zero, i.size, i.bytes)) = some (some z, size, bytes)) (hzs : z.cells.size = size) (hsz : 0 < size)
    (v : Value) (n : Nat) (xs : List Value) (hs : a.eval s = v) (hown : w.ownsRow base e size v n xs)
    (A : Option Addr) (m c : Nat) (news : List Value) (hx : a.eval x = .slice A m c) (hl : news.length = m * size) (hnone : A = none → m = 0) (hcells : ∀ ad, A = some ad → ∀ j u, news[j]? = some u → w.cell? (ad.add j) = some u) (h1 : ∀ u ∈ news, u.oneCell' = true)
    (h63 : n + m ≤ maxLen) (hbytes : (n + m) * bytes ≤ 140737488355328) (hbase : base ≤ w.heap.size)
    (h : ∀ A' c' w', w'.ownsRow base e size (.slice A' (n + m) c') (n + m) (xs ++ news) → w.grownBy w' v.ownBlock → ((Value.slice A' (n + m) c').ownBlock = v.ownBlock ∨ (Value.slice A' (n + m) c').ownBlock = some w.heap.size) → K (a.put o.dst (.slice A' (n + m) c')) w') : o.wp P a w K Q := by
  obtain ⟨i, hi, hz, hsize, hby⟩ := info_parts hinfo
  obtain ⟨v', w', hrun, h2, h3, h4⟩ := run_append_from (P := P) w base t o.type e i z size bytes ht hi hz hsize hby hzs hsz v n xs hown A m c news hl hnone hcells h1 h63 hbytes hbase
  unfold Oper.wp execOp
  simp only [ho, resolve, invoke, builtin, Sem.run_bind, Sem.run_pure, Result.andThen_ok, List.map_toArray, List.map_cons, List.map_nil, hs, hx, hrun]
  obtain ⟨A', c', rfl⟩ := own_shape h2
  exact h A' c' w' h2 h3 h4

theorem wpList_append_from {ops : Array Oper} {rest : List Oper} {o : Oper} {a : Act} {Q : Exit → Act → World → Prop} (hgd : o.guard = none) (s x : Operand) (t : TypeId)
    (ho : o.op = .call { callee := .builtin .append, args := #[s, x], argTypes := #[t, t] })
    (base : Nat) (e : TypeId) {z : Value} {size bytes : Nat} (ht : P.underlying t = some (.slice e)) (hinfo : (P.info? e).map (fun i => (i.zero, i.size, i.bytes)) = some (some z, size, bytes)) (hzs : z.cells.size = size) (hsz : 0 < size)
    (v : Value) (n : Nat) (xs : List Value) (hs : a.eval s = v) (hown : w.ownsRow base e size v n xs)
    (A : Option Addr) (m c : Nat) (news : List Value) (hx : a.eval x = .slice A m c) (hl : news.length = m * size) (hnone : A = none → m = 0) (hcells : ∀ ad, A = some ad → ∀ j u, news[j]? = some u → w.cell? (ad.add j) = some u) (h1 : ∀ u ∈ news, u.oneCell' = true)
    (h63 : n + m ≤ maxLen) (hbytes : (n + m) * bytes ≤ 140737488355328) (hbase : base ≤ w.heap.size)
    (h : ∀ A' c' w', w'.ownsRow base e size (.slice A' (n + m) c') (n + m) (xs ++ news) → w.grownBy w' v.ownBlock → ((Value.slice A' (n + m) c').ownBlock = v.ownBlock ∨ (Value.slice A' (n + m) c').ownBlock = some w.heap.size) → wpList P ops Q rest (a.put o.dst (.slice A' (n + m) c')) w') : wpList P ops Q (o :: rest) a w :=
  wpList_plain hgd fun _ hK => wp_append_from w s x t ho base e ht hinfo hzs hsz v n xs hs hown A m c news hx hl hnone hcells h1 h63 hbytes hbase fun A' c' w' h2 h3 h4 => hK _ _ (h A' c' w' h2 h3 h4)

theorem step_append_from {ops : Array Oper} {o : Oper} {a : Act} {K : Act → World → Prop} {Q : Exit → Act → World → Prop} {E : Prop} (hgd : o.guard = none) (s x : Operand) (t : TypeId)
    (ho : o.op = .call { callee := .builtin .append, args := #[s, x], argTypes := #[t, t] })
    (base : Nat) (e : TypeId) {z : Value} {size bytes : Nat} (ht : P.underlying t = some (.slice e)) (hinfo : (P.info? e).map (fun i => (i.zero, i.size, i.bytes)) = some (some z, size, bytes)) (hzs : z.cells.size = size) (hsz : 0 < size)
    (v : Value) (n : Nat) (xs : List Value) (hs : a.eval s = v) (hown : w.ownsRow base e size v n xs)
    (A : Option Addr) (m c : Nat) (news : List Value) (hx : a.eval x = .slice A m c) (hl : news.length = m * size) (hnone : A = none → m = 0) (hcells : ∀ ad, A = some ad → ∀ j u, news[j]? = some u → w.cell? (ad.add j) = some u) (h1 : ∀ u ∈ news, u.oneCell' = true)
    (h63 : n + m ≤ maxLen) (hbytes : (n + m) * bytes ≤ 140737488355328) (hbase : base ≤ w.heap.size)
    (h : ∀ A' c' w', w'.ownsRow base e size (.slice A' (n + m) c') (n + m) (xs ++ news) → w.grownBy w' v.ownBlock → ((Value.slice A' (n + m) c').ownBlock = v.ownBlock ∨ (Value.slice A' (n + m) c').ownBlock = some w.heap.size) → K (a.put o.dst (.slice A' (n + m) c')) w') :
    if Region.wanted o (yielded ops a.tmps) = true then Oper.wp P o a w K Q else E := by
  rw [if_pos (by simp [Region.wanted, hgd])]
  exact wp_append_from w s x t ho base e ht hinfo hzs hsz v n xs hs hown A m c news hx hl hnone hcells h1 h63 hbytes hbase h

end

theorem own_at {w : World} {base : Nat} {e : TypeId} {size : Nat} {v : Value} {n : Nat} {xs : List Value} {F : Nat → Prop} (h : w.ownsRow base e size v n xs) (hF : ∀ b, base ≤ b → b < w.heap.size → F b) : ∀ b, v.ownBlock = some b → F b := fun b hb => hF b (h.lt b hb).1 (h.lt b hb).2
/-- the cells of a block that has just been laid -/
theorem news_cells {w : World} {g : Nat} {t : TypeId} {cs : Array Value} (h : Blk w g t cs) : ∀ j u, cs.toList[j]? = some u → w.cell? ((⟨g, 0, none⟩ : Addr).add j) = some u := by
  intro j u hu
  rw [add_some, Nat.zero_add, h.cell]
  simpa using hu
end Go.Proofs.YtpkapommekkbcaaDoor
