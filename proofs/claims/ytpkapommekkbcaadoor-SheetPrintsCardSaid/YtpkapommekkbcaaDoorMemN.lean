import Derived.Test.YtpkapommekkbcaaDoorMut2
import Derived.Test.YtpkapommekkbcaaDoorMem
set_option linter.unusedSimpArgs false
set_option linter.unusedVariables false
section
namespace Go.Proofs.YtpkapommekkbcaaDoor
open Go Go.RowKit

/-! ### Nodes of a model of the call's own, written in -/
section
variable {w w' : World} {base g n cap : Nat} {l : List LN}
theorem OwnM.cell (h : OwnM w base (.slice (some ⟨g, 0, none⟩) n cap) l) {i j : Nat} (hi : i < l.length) (hj : j < 7) : w.cell? ⟨g, i * 7 + j, none⟩ = l[i].cells[j]? := by
  have hnl : n = l.length := by obtain ⟨A, c, e⟩ := own_shape h.row; injection e
  subst hnl
  rw [own_cell h.row (i * 7 + j) (by have : (i + 1) * 7 ≤ l.length * 7 := Nat.mul_le_mul_right _ hi; omega), flat_at LN.cells_len l i j hi hj]
theorem OwnM.frozen (h : OwnM w base (.slice (some ⟨g, 0, none⟩) n cap) l) (i : Nat) : w.frozen? ⟨g, i, none⟩ = false := by
  have hnl : n = l.length := by obtain ⟨A, c, e⟩ := own_shape h.row; injection e
  subst hnl
  exact own_frozen h.row i
end
/-- all is as it was, but for blocks of O and for what is new -/
structure KeepO (O : Nat → Prop) (w w' : World) : Prop where
  os : w'.os = w.os
  tape : w'.tape = w.tape
  output : w'.output = w.output
  size : w.heap.size ≤ w'.heap.size
  block : ∀ k, k < w.heap.size → ¬ O k → w'.heap[k]? = w.heap[k]?
section
variable {O : Nat → Prop} {a w w' : World}
theorem KeepO.refl (O : Nat → Prop) (w : World) : KeepO O w w := ⟨rfl, rfl, rfl, Nat.le_refl _, fun _ _ _ => rfl⟩
theorem KeepO.below (h : KeepO O a w) (hb : Below w.heap.size w w') : KeepO O a w' :=
  ⟨hb.os.trans h.os, hb.tape.trans h.tape, hb.output.trans h.output, Nat.le_trans h.size hb.size, fun k hk hn => (hb.block k (Nat.lt_of_lt_of_le hk h.size)).trans (h.block k hk hn)⟩
theorem KeepO.alloc (h : KeepO O a w) (o : Obj) : KeepO O a (w.alloc o) := h.below ((Below.refl w.heap.size w).alloc (Nat.le_refl _) o)
theorem KeepO.set_ (h : KeepO O a w) {g : Nat} (hg : O g) (i : Nat) (u : Value) : KeepO O a (w.setCell ⟨g, i, none⟩ u) :=
  ⟨h.os, h.tape, h.output, by simpa using h.size, fun k hk hn => (Below.heap_setCell _ _ _ _ (fun e => hn (by subst e; exact hg))).trans (h.block k hk hn)⟩
theorem KeepO.grown (h : KeepO O a w) {row : Option Nat} (hg : w.grownBy w' row) (hr : ∀ b, row = some b → O b) : KeepO O a w' :=
  ⟨hg.os.trans h.os, hg.tape.trans h.tape, hg.output.trans h.output, Nat.le_trans h.size hg.size, fun k hk hn => (hg.block k (Nat.lt_of_lt_of_le hk h.size) (fun e => hn (hr k e.symm))).trans (h.block k hk hn)⟩
theorem KeepO.blk {g : Nat} {t : TypeId} {cs : Array Value} (h : KeepO O a w) (hb : Blk a g t cs) (hg : ¬ O g) : Blk w g t cs := (h.block g hb.lt hg).trans hb
end
end Go.Proofs.YtpkapommekkbcaaDoor
end
section
/- pieces of memory put in another order; a model's nodes as pieces -/
namespace Go.Proofs.YtpkapommekkbcaaDoor
open Go Go.RowKit Go.Maps

theorem nodup_inj {α : Type} {l : List α} (h : l.Nodup) {i j : Nat} (hi : i < l.length) (hj : j < l.length) (e : l[i] = l[j]) : i = j := by
  rcases Nat.lt_trichotomy i j with h1 | h1 | h1
  · exact absurd e (List.pairwise_iff_getElem.1 h i j hi hj h1)
  · exact h1
  · exact absurd e.symm (List.pairwise_iff_getElem.1 h j i hj hi h1)
theorem count_le_one {b : Nat} : ∀ (m : List (Option Nat)), (∀ i j : Nat, m[i]? = some (some b) → m[j]? = some (some b) → i = j) → m.count (some b) ≤ 1
  | [], _ => by simp
  | a :: r, h => by
    have ih := count_le_one r (fun i j h1 h2 => by
      have := h (i + 1) (j + 1) (by rw [List.getElem?_cons_succ]; exact h1) (by rw [List.getElem?_cons_succ]; exact h2)
      omega)
    rw [List.count_cons]
    by_cases ha : a = some b
    · have h0 : r.count (some b) = 0 := List.count_eq_zero.2 fun hm => by
        obtain ⟨j, hj⟩ := List.mem_iff_getElem?.1 hm
        have := h 0 (j + 1) (by rw [List.getElem?_cons_zero, ha]) (by rw [List.getElem?_cons_succ]; exact hj)
        omega
      rw [h0, ha]; simp
    · simp [ha]; exact ih
section
variable {w0 w w' : World} {f f2 t l : List Chunk}
/-- pieces in another order, some left out; what stands behind them stays -/
theorem Mem.pick (h : Mem w0 w (f ++ t)) (is : List Nat) (f2 : List Chunk) (hn : is.Nodup) (he : is.map (fun i => f[i]?) = f2.map some) : Mem w0 w (f2 ++ t) := by
  have hlen : is.length = f2.length := by have := congrArg List.length he; simpa using this
  have hat : ∀ i (hi : i < f2.length), f[is[i]'(by omega)]? = some (f2[i]) := fun i hi => by
    have := congrArg (fun x => x[i]?) he
    simpa [List.getElem?_map, List.getElem?_eq_getElem (show i < is.length by omega), List.getElem?_eq_getElem hi] using this
  have hlt : ∀ i (hi : i < f2.length), is[i]'(by omega) < f.length := fun i hi => (List.getElem?_eq_some_iff.1 (hat i hi)).1
  let p : Nat → Nat := fun i => if hi : i < f2.length then is[i]'(by omega) else f.length + (i - f2.length)
  have hp : ∀ i, (f2 ++ t)[i]? = (f ++ t)[p i]? := fun i => by
    by_cases hi : i < f2.length
    · have e : p i = is[i]'(by omega) := dif_pos hi
      rw [e, List.getElem?_append_left (hlt i hi), hat i hi, List.getElem?_append_left hi, List.getElem?_eq_getElem hi]
    · have e : p i = f.length + (i - f2.length) := dif_neg hi
      rw [e, List.getElem?_append_right (by omega), List.getElem?_append_right (by omega)]
      congr 1; omega
  have hinj : ∀ i j, p i = p j → i = j := fun i j e => by
    by_cases hi : i < f2.length
    · have ei : p i = is[i]'(by omega) := dif_pos hi
      by_cases hj : j < f2.length
      · have ej : p j = is[j]'(by omega) := dif_pos hj
        rw [ei, ej] at e
        exact nodup_inj hn _ _ e
      · have ej : p j = f.length + (j - f2.length) := dif_neg hj
        have := hlt i hi
        omega
    · have ei : p i = f.length + (i - f2.length) := dif_neg hi
      by_cases hj : j < f2.length
      · have ej : p j = is[j]'(by omega) := dif_pos hj
        have := hlt j hj
        omega
      · have ej : p j = f.length + (j - f2.length) := dif_neg hj
        omega
  refine ⟨h.below, fun c hc => ?_, fun b => count_le_one _ fun i j h1 h2 => ?_⟩
  · obtain ⟨i, hi⟩ := List.mem_iff_getElem?.1 hc
    rw [hp i] at hi
    exact h.get hi
  · rw [List.getElem?_map, hp i] at h1
    rw [List.getElem?_map, hp j] at h2
    cases e1 : (f ++ t)[p i]? with
    | none => rw [e1] at h1; cases h1
    | some c1 =>
      cases e2 : (f ++ t)[p j]? with
      | none => rw [e2] at h2; cases h2
      | some c2 =>
        rw [e1] at h1; rw [e2] at h2
        injection h1 with h1; injection h2 with h2
        by_cases hij : p i = p j
        · exact hinj i j hij
        · exact absurd rfl (h.dis.ne e1 e2 hij h1 h2)
end
def LN.chunks (x : LN) : List Chunk := [.row 57 2 x.p x.n.props.length (x.n.props.flatMap propCells), .row 3 1 x.k x.n.kids.length (x.n.kids.map (Value.int .i64)), .row 60 2 x.r x.n.refs.length (x.n.refs.flatMap refCells)]
def rowsL (l : List LN) : List Chunk := l.flatMap LN.chunks
def modelC (v : Value) (l : List LN) : List Chunk := .row 37 7 v l.length (l.flatMap LN.cells) :: rowsL l
theorem rows_place : ∀ l : List LN, (rowsL l).map Chunk.place = allBlocks l
  | [] => rfl
  | x :: r => by
    have ih := rows_place r
    unfold rowsL allBlocks at ih ⊢
    rw [List.flatMap_cons, List.flatMap_cons, List.map_append, ih]; rfl
theorem model_place (v : Value) (l : List LN) : (modelC v l).map Chunk.place = v.ownBlock :: allBlocks l := by
  unfold modelC; rw [List.map_cons, rows_place]; rfl
section
variable {w0 w w' : World} {base : Nat} {v v' : Value} {lo : List LN} {x : LN} {l : List Chunk}
theorem OwnL.holds (h : OwnL w base x) : ∀ c ∈ x.chunks, c.Holds w base := fun c hc => by
  simp only [LN.chunks, List.mem_cons, List.not_mem_nil, or_false] at hc
  rcases hc with rfl | rfl | rfl
  · exact h.p
  · exact h.k
  · exact h.r
theorem OwnL.of (h : ∀ c ∈ x.chunks, c.Holds w base) : OwnL w base x :=
  ⟨h _ (List.mem_cons_self ..), h _ (List.mem_cons_of_mem _ (List.mem_cons_self ..)), h _ (List.mem_cons_of_mem _ (List.mem_cons_of_mem _ (List.mem_cons_self ..)))⟩
theorem OwnM.holds (h : OwnM w base v lo) : ∀ c ∈ modelC v lo, c.Holds w base := fun c hc => by
  rcases List.mem_cons.1 hc with rfl | hc
  · exact h.row
  · obtain ⟨x, hx, hc⟩ := List.mem_flatMap.1 hc
    exact (h.lists x hx).holds c hc
theorem OwnM.of (h : ∀ c ∈ modelC v lo, c.Holds w base) (hd : ApartC (modelC v lo)) : OwnM w base v lo :=
  ⟨h _ (List.mem_cons_self ..), fun x hx => OwnL.of fun c hc => h c (List.mem_cons_of_mem _ (List.mem_flatMap.2 ⟨x, hx, hc⟩)), fun b => by rw [← model_place]; exact hd b⟩
end
end Go.Proofs.YtpkapommekkbcaaDoor
namespace Go.Proofs.YtpkapommekkbcaaDoor
open Go Go.RowKit Go.Maps
section
variable {w0 w w' : World} {f l : List Chunk} {c : Chunk} {v : Value} {lo : List LN}
theorem Mem.pick0 (h : Mem w0 w f) (is : List Nat) (f2 : List Chunk) (hn : is.Nodup) (he : is.map (fun i => f[i]?) = f2.map some) : Mem w0 w f2 := by
  have := Mem.pick (f := f) (t := []) (by simpa using h) is f2 hn he
  simpa using this
theorem Mem.allocG (h : Mem w0 w l) {g : Nat} (hg : w.heap.size = g) (cs : Array Value) (t : TypeId) : Mem w0 (w.alloc (.cells cs t)) (.blk g t cs :: l) := by
  subst hg; exact h.alloc cs t
theorem Mem.allocM (h : Mem w0 w l) {g : Nat} (hg : w.heap.size = g) (k : TypeId) : Mem w0 (w.alloc (.map #[] 0)) (.mp k g 0 (.map []) :: l) := by
  subst hg
  exact h.one ((Below.refl w.heap.size w).alloc (Nat.le_refl _) _) ⟨Nat.le_refl _, World.ownsMap_made _ _ _ _⟩
/-- a struct of seven cells stored over a block of seven -/
theorem Mem.store7 (h : Mem w0 w l) (i : Nat) {g : Nat} {t : TypeId} {a0 a1 a2 a3 a4 a5 a6 b0 b1 b2 b3 b4 b5 b6 : Value} (hi : l[i]? = some (.blk g t #[a0, a1, a2, a3, a4, a5, a6])) :
    Mem w0 (((((((w.setCell ⟨g, 0, none⟩ b0).setCell ⟨g, 1, none⟩ b1).setCell ⟨g, 2, none⟩ b2).setCell ⟨g, 3, none⟩ b3).setCell ⟨g, 4, none⟩ b4).setCell ⟨g, 5, none⟩ b5).setCell ⟨g, 6, none⟩ b6) (l.set i (.blk g t #[b0, b1, b2, b3, b4, b5, b6])) := by
  have e : ∀ b, b ≠ g → (((((((w.setCell ⟨g, 0, none⟩ b0).setCell ⟨g, 1, none⟩ b1).setCell ⟨g, 2, none⟩ b2).setCell ⟨g, 3, none⟩ b3).setCell ⟨g, 4, none⟩ b4).setCell ⟨g, 5, none⟩ b5).setCell ⟨g, 6, none⟩ b6).heap[b]? = w.heap[b]? := fun b h =>
    (Below.heap_setCell _ _ _ _ h).trans ((Below.heap_setCell _ _ _ _ h).trans ((Below.heap_setCell _ _ _ _ h).trans ((Below.heap_setCell _ _ _ _ h).trans ((Below.heap_setCell _ _ _ _ h).trans ((Below.heap_setCell _ _ _ _ h).trans (Below.heap_setCell _ _ _ _ h))))))
  have hg := (h.get hi).1
  refine h.turn hi ?_ (fun k ck b hk hne e2 => e b (h.ne hk hi hne e2 rfl)) ⟨hg, ?_⟩ (.inl rfl)
  · exact (((((((Below.refl _ w).setCell (p := ⟨g, 0, none⟩) hg b0).setCell (p := ⟨g, 1, none⟩) hg b1).setCell (p := ⟨g, 2, none⟩) hg b2).setCell (p := ⟨g, 3, none⟩) hg b3).setCell (p := ⟨g, 4, none⟩) hg b4).setCell (p := ⟨g, 5, none⟩) hg b5).setCell (p := ⟨g, 6, none⟩) hg b6
  · simpa using (((((((h.blk i hi).set_ 0 b0).set_ 1 b1).set_ 2 b2).set_ 3 b3).set_ 4 b4).set_ 5 b5).set_ 6 b6
end
end Go.Proofs.YtpkapommekkbcaaDoor
end
