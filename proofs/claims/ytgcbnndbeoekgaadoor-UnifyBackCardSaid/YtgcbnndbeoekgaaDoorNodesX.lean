/- nodes that the call builds, their arguments' rows apart from some blocks -/
import Derived.Test.YtgcbnndbeoekgaaDoorNodes
import Derived.Maps.Range
set_option linter.unusedSimpArgs false
set_option linter.unusedVariables false
namespace Go.Proofs.YtgcbnndbeoekgaaDoor
open Go Go.RowKit

/-- OwnNodes, no node's arguments in one of the blocks X -/
def OwnX (eN eI : TypeId) (w : World) (B : Nat) (v : Value) (ts : List TN) (X : Nat → Prop) : Prop :=
  ∃ avs : List Value, avs.length = ts.length ∧ w.ownsRow B eN 3 v ts.length (rowCells ts avs) ∧
    (∀ i (h : i < ts.length) (h' : i < avs.length), w.ownsRow B eI 1 avs[i] ts[i].args.length (ts[i].args.map (.int .i64))) ∧
    (∀ i j (h : i < avs.length) (h' : j < avs.length), i ≠ j → ∀ b, avs[i].ownBlock = some b → avs[j].ownBlock ≠ some b) ∧
    ∀ i (h : i < avs.length) b, avs[i].ownBlock = some b → ¬ X b
section
variable {eN eI : TypeId} {w w' : World} {B : Nat} {v : Value} {ts : List TN} {X Y : Nat → Prop}
theorem OwnX.nodes (h : OwnX eN eI w B v ts X) : OwnNodes eN eI w B v ts := let ⟨avs, h1, h2, h3, h4, _⟩ := h; ⟨avs, h1, h2, h3, h4⟩
theorem OwnX.of (h : OwnNodes eN eI w B v ts) (hX : ∀ b, X b → w.heap.size ≤ b ∨ b < B) : OwnX eN eI w B v ts X := by
  obtain ⟨avs, h1, h2, h3, h4⟩ := h
  refine ⟨avs, h1, h2, h3, h4, fun i hi b hb hx => ?_⟩
  have := (h3 i (by omega) hi).lt b hb
  rcases hX b hx with h | h <;> omega
theorem OwnX.nil (w : World) (B : Nat) : OwnX eN eI w B (.slice none 0 0) [] X :=
  ⟨[], rfl, World.ownsRow_nil _ _ _ _, fun i h => absurd h (by simp), fun i j h => absurd h (by simp), fun i h => absurd h (by simp)⟩
theorem OwnX.widen (h : OwnX eN eI w B v ts X) (hY : ∀ b, Y b → X b ∨ w.heap.size ≤ b) : OwnX eN eI w B v ts Y := by
  obtain ⟨avs, h1, h2, h3, h4, h5⟩ := h
  refine ⟨avs, h1, h2, h3, h4, fun i hi b hb hx => ?_⟩
  rcases hY b hx with h | h
  · exact h5 i hi b hb h
  · have := (h3 i (by omega) hi).lt b hb; omega
theorem OwnX.shape (h : OwnX eN eI w B v ts X) : ∃ A c, v = .slice A ts.length c := h.nodes.shape
/-- behind what lets all stand but one of the blocks X -/
theorem OwnX.keptX (h : OwnX eN eI w B v ts X) {row : Option Nat} (hg : w.grownBy w' row) (hr : ∀ b, row = some b → X b) (hv : ∀ b, row = some b → v.ownBlock ≠ some b) : OwnX eN eI w' B v ts X := by
  obtain ⟨avs, h1, h2, h3, h4, h5⟩ := h
  refine ⟨avs, h1, h2.kept hg ?_, fun i hi hi' => (h3 i hi hi').kept hg ?_, h4, h5⟩
  · cases hb : v.ownBlock with
    | none => exact .inl rfl
    | some b => exact .inr fun e => hv b e.symm hb
  · cases hb : avs[i].ownBlock with
    | none => exact .inl rfl
    | some b => exact .inr fun e => h5 i hi' b hb (hr b e.symm)
theorem OwnX.still (h : OwnX eN eI w B v ts X) (hg : w.grownBy w' none) : OwnX eN eI w' B v ts X := h.keptX hg (fun b e => by cases e) (fun b e => by cases e)
theorem OwnX.alloc (h : OwnX eN eI w B v ts X) (o : Obj) : OwnX eN eI (w.alloc o) B v ts X := h.still (World.grownBy_alloc w o none)
theorem OwnX.drew (h : OwnX eN eI w B v ts X) : OwnX eN eI w.drew B v ts X := h
theorem OwnX.drewN (h : OwnX eN eI w B v ts X) (n : Nat) : OwnX eN eI (w.drewN n) B v ts X := h
theorem OwnX.below (h : OwnX eN eI w B v ts X) (hb : Below w.heap.size w w') : OwnX eN eI w' B v ts X :=
  h.still ⟨hb.os, hb.tape, hb.output, hb.size, fun k hk _ => hb.block k hk⟩
/-- a row of numbers lies in no block of nodes -/
theorem OwnX.ne_ints (h : OwnX eN eI w B v ts X) (hne : eN ≠ eI) {a : Value} {base n : Nat} {xs : List Value} (ha : w.ownsRow base eI 1 a n xs) : ∀ b, a.ownBlock = some b → v.ownBlock ≠ some b := by
  obtain ⟨avs, h1, h2, _⟩ := h
  exact own_type_ne ha h2 (fun e => hne e.symm)
theorem OwnX.push (hne : eN ≠ eI) {avs : List Value} (h1 : avs.length = ts.length) (h2 : w.ownsRow B eN 3 v ts.length (rowCells ts avs)) (h3 : ∀ i (h : i < ts.length) (h' : i < avs.length), w.ownsRow B eI 1 avs[i] ts[i].args.length (ts[i].args.map (.int .i64)))
    (h4 : ∀ i j (h : i < avs.length) (h' : j < avs.length), i ≠ j → ∀ b, avs[i].ownBlock = some b → avs[j].ownBlock ≠ some b) (h5 : ∀ i (h : i < avs.length) b, avs[i].ownBlock = some b → ¬ X b) {y : TN} (hy : y.args = []) {v' : Value}
    (ho : w'.ownsRow B eN 3 v' (ts.length + 1) (rowCells ts avs ++ nodeCells y (.slice none 0 0))) (hg : w.grownBy w' v.ownBlock) : OwnX eN eI w' B v' (ts ++ [y]) X := by
  have key : ∀ {n} {a : Value} {xs : List Value}, w.ownsRow B eI 1 a n xs → w'.ownsRow B eI 1 a n xs := by
    intro n a xs ha
    refine ha.kept hg ?_
    cases hb : a.ownBlock with
    | none => exact .inl rfl
    | some b => exact .inr fun e => own_type_ne ha h2 (fun e => hne e.symm) b hb e.symm
  refine ⟨avs ++ [.slice none 0 0], by simp [h1], by rw [rowCells_snoc _ _ _ _ h1]; simpa using ho, fun i hi hi' => ?_, fun i j hi hj hij b hb => ?_, fun i hi b hb => ?_⟩
  · by_cases hlt : i < ts.length
    · rw [List.getElem_append_left (by omega), List.getElem_append_left hlt]
      exact key (h3 i hlt (by omega))
    · have e : i = ts.length := by simp at hi; omega
      subst e
      rw [List.getElem_append_right (by omega), List.getElem_append_right (by omega)]
      simp [h1, hy]
      exact World.ownsRow_nil _ _ _ _
  · by_cases hi2 : i < avs.length
    · rw [List.getElem_append_left hi2] at hb
      by_cases hj2 : j < avs.length
      · rw [List.getElem_append_left hj2]; exact h4 i j hi2 hj2 hij b hb
      · have e : j = avs.length := by simp at hj; omega
        subst e
        rw [List.getElem_append_right (by omega)]; simp [Value.ownBlock]
    · have e : i = avs.length := by simp at hi; omega
      subst e
      rw [List.getElem_append_right (by omega)] at hb
      simp [Value.ownBlock] at hb
  · by_cases hi2 : i < avs.length
    · rw [List.getElem_append_left hi2] at hb
      exact h5 i hi2 b hb
    · have e : i = avs.length := by simp at hi; omega
      subst e
      rw [List.getElem_append_right (by omega)] at hb
      simp [Value.ownBlock] at hb
/-- a row of numbers is stored as a node's arguments -/
theorem OwnX.setArgs (hne : eN ≠ eI) {g cap n : Nat} (h : OwnX eN eI w B (.slice (some ⟨g, 0, none⟩) n cap) ts X) {i : Nat} (hi : i < ts.length) {a : Value} {xs : List Int} (ha : w.ownsRow B eI 1 a xs.length (xs.map (.int .i64)))
    (hX : ∀ b, a.ownBlock = some b → X b) (hY : ∀ b, Y b → X b ∧ a.ownBlock ≠ some b) :
    OwnX eN eI (w.setCell ⟨g, i * 3 + 2, none⟩ a) B (.slice (some ⟨g, 0, none⟩) n cap) (ts.set i { ts[i] with args := xs }) Y := by
  have hne' := h.ne_ints hne ha
  obtain ⟨avs, h1, h2, h3, h4, h5⟩ := h
  have hn : ts.length = n := by
    obtain ⟨A, c, e⟩ := own_shape h2
    injection e with _ e _
    exact e.symm
  subst hn
  have hi' : i < avs.length := by omega
  obtain ⟨s1, s2⟩ := h2.stored (i * 3 + 2) a
  have keep : ∀ {k : Nat} {u : Value} {ys : List Value}, w.ownsRow B eI 1 u k ys → (w.setCell ⟨g, i * 3 + 2, none⟩ a).ownsRow B eI 1 u k ys := by
    intro k u ys hu
    refine hu.kept s2 ?_
    cases hb : u.ownBlock with
    | none => exact .inl rfl
    | some b => exact .inr fun e => own_type_ne hu h2 (fun e => hne e.symm) b hb (by rw [e]; rfl)
  have new_ne : ∀ m (hm : m < avs.length), ∀ b, a.ownBlock = some b → avs[m].ownBlock ≠ some b := fun m hm b hb hmb => h5 m hm b hmb (hX b hb)
  refine ⟨avs.set i a, by simp [h1], ?_, fun j hj hj' => ?_, fun j k hj hk hjk b hb => ?_, fun j hj b hb hy => ?_⟩
  · rw [rowCells_set (t := { ts[i] with args := xs }) (a := a) h1 hi (by omega) (by simp [nodeCells])] at s1
    simpa using s1
  · have hj2 : j < ts.length := by simpa using hj
    have hj3 : j < avs.length := by simpa using hj'
    by_cases hij : i = j
    · subst hij
      simp only [List.getElem_set_self]
      exact keep ha
    · rw [List.getElem_set_ne hij, List.getElem_set_ne hij]
      exact keep (h3 j hj2 hj3)
  · have hj3 : j < avs.length := by simpa using hj
    have hk3 : k < avs.length := by simpa using hk
    by_cases hij : i = j
    · subst hij
      rw [List.getElem_set_self] at hb
      rw [List.getElem_set_ne hjk]
      exact new_ne k hk3 b hb
    · rw [List.getElem_set_ne hij] at hb
      by_cases hik : i = k
      · subst hik
        rw [List.getElem_set_self]
        intro e
        exact new_ne j hj3 b e hb
      · rw [List.getElem_set_ne hik]
        exact h4 j k hj3 hk3 hjk b hb
  · have hj3 : j < avs.length := by simpa using hj
    by_cases hij : i = j
    · subst hij
      rw [List.getElem_set_self] at hb
      exact (hY b hy).2 hb
    · rw [List.getElem_set_ne hij] at hb
      exact h5 j hj3 b hb (hY b hy).1
end
/-- 'append(l, TNode{..})', the node without arguments -/
theorem wp_pushX {P : Program} (w : World) {eN eI : TypeId} (hne : eN ≠ eI) {o : Oper} {a : Act} {K : Act → World → Prop} {Q : Exit → Act → World → Prop} (s x : Operand) (t : TypeId)
    (ho : o.op = .call { callee := .builtin .append, args := #[s, x], argTypes := #[t, t] })
    (base : Nat) {z : Value} {bytes : Nat} (ht : P.underlying t = some (.slice eN)) (hinfo : (P.info? eN).map (fun i => (i.zero, i.size, i.bytes)) = some (some z, 3, bytes)) (hzs : z.cells.size = 3)
    (v : Value) (ts : List TN) (X : Nat → Prop) (hs : a.eval s = v) (hown : OwnX eN eI w base v ts X)
    (y : TN) (hy : y.args = []) (ad : Addr) (c : Nat) (hx : a.eval x = .slice (some ad) 1 c) (hcs : ∀ j u, (nodeCells y (.slice none 0 0))[j]? = some u → w.cell? (ad.add j) = some u)
    (h63 : ts.length + 1 ≤ maxLen) (hbytes : (ts.length + 1) * bytes ≤ 140737488355328) (hbase : base ≤ w.heap.size)
    (h : ∀ A' c' w', OwnX eN eI w' base (.slice A' (ts.length + 1) c') (ts ++ [y]) X → w.grownBy w' v.ownBlock → ((Value.slice A' (ts.length + 1) c').ownBlock = v.ownBlock ∨ (Value.slice A' (ts.length + 1) c').ownBlock = some w.heap.size) → K (a.put o.dst (.slice A' (ts.length + 1) c')) w') : o.wp P a w K Q := by
  obtain ⟨avs, h1, h2, h3, h4, h5⟩ := hown
  exact wp_append_from w s x t ho base eN ht hinfo hzs (by omega) v ts.length (rowCells ts avs) hs h2 (some ad) 1 c (nodeCells y (.slice none 0 0)) hx rfl (by simp) (fun ad' e => by cases e; exact hcs) (by intro u hu; simp [nodeCells] at hu; rcases hu with rfl | rfl | rfl <;> rfl) h63 hbytes hbase
    fun A' c' w' g2 g3 g5 => h A' c' w' (OwnX.push hne h1 h2 h3 h4 h5 hy g2 g3) g3 g5
theorem wpList_pushX {P : Program} (w : World) {eN eI : TypeId} (hne : eN ≠ eI) {ops : Array Oper} {rest : List Oper} {o : Oper} {a : Act} {Q : Exit → Act → World → Prop} (hgd : o.guard = none) (s x : Operand) (t : TypeId)
    (ho : o.op = .call { callee := .builtin .append, args := #[s, x], argTypes := #[t, t] })
    (base : Nat) {z : Value} {bytes : Nat} (ht : P.underlying t = some (.slice eN)) (hinfo : (P.info? eN).map (fun i => (i.zero, i.size, i.bytes)) = some (some z, 3, bytes)) (hzs : z.cells.size = 3)
    (v : Value) (ts : List TN) (X : Nat → Prop) (hs : a.eval s = v) (hown : OwnX eN eI w base v ts X)
    (y : TN) (hy : y.args = []) (ad : Addr) (c : Nat) (hx : a.eval x = .slice (some ad) 1 c) (hcs : ∀ j u, (nodeCells y (.slice none 0 0))[j]? = some u → w.cell? (ad.add j) = some u)
    (h63 : ts.length + 1 ≤ maxLen) (hbytes : (ts.length + 1) * bytes ≤ 140737488355328) (hbase : base ≤ w.heap.size)
    (h : ∀ A' c' w', OwnX eN eI w' base (.slice A' (ts.length + 1) c') (ts ++ [y]) X → w.grownBy w' v.ownBlock → ((Value.slice A' (ts.length + 1) c').ownBlock = v.ownBlock ∨ (Value.slice A' (ts.length + 1) c').ownBlock = some w.heap.size) → wpList P ops Q rest (a.put o.dst (.slice A' (ts.length + 1) c')) w') : wpList P ops Q (o :: rest) a w :=
  wpList_plain hgd fun _ hK => wp_pushX w hne s x t ho base ht hinfo hzs v ts X hs hown y hy ad c hx hcs h63 hbytes hbase fun A' c' w' h2 h3 h4 => hK _ _ (h A' c' w' h2 h3 h4)
/-! ### Nodes with arguments of their own -/
section
variable {eN eI : TypeId} {w w' : World} {B : Nat} {v : Value} {ts : List TN} {X Y : Nat → Prop}
theorem own_ne_blkX {w : World} {base : Nat} {e : TypeId} {size : Nat} {v : Value} {n : Nat} {xs : List Value} (h : w.ownsRow base e size v n xs) {g : Nat} {t : TypeId} {cs : Array Value} (hb : Blk w g t cs) (hne : t ≠ e) : v.ownBlock ≠ some g := by
  rcases h.2 with ⟨rfl, _⟩ | ⟨g', cap, cur, rfl, _, hh, _⟩
  · simp [Value.ownBlock]
  · intro he
    simp [Value.ownBlock] at he
    subst he
    unfold Blk at hb
    rw [hh] at hb
    injection hb with hb
    injection hb with _ hb
    exact hne hb.symm
/-- a store into a node's block that is not the row's -/
theorem OwnX.node (hne : eN ≠ eI) (h : OwnX eN eI w B v ts X) {g i : Nat} {cs : Array Value} (hb : Blk w g eN cs) (hv : v.ownBlock ≠ some g) (u : Value) : OwnX eN eI (w.setCell ⟨g, i, none⟩ u) B v ts X := by
  have hg : w.grownBy (w.setCell ⟨g, i, none⟩ u) (some g) := ⟨rfl, rfl, rfl, by simp, fun k hk hne => Below.heap_setCell _ _ _ _ (fun e => hne (by rw [e]))⟩
  obtain ⟨avs, h1, h2, h3, h4, h5⟩ := h
  exact ⟨avs, h1, h2.kept hg (.inr hv), fun i hi hi' => (h3 i hi hi').kept hg (.inr (own_ne_blkX (h3 i hi hi') hb hne)), h4, h5⟩
/-- a store into a block of another type -/
theorem OwnX.other (h : OwnX eN eI w B v ts X) {g i : Nat} {t : TypeId} {cs : Array Value} (hb : Blk w g t cs) (n1 : t ≠ eN) (n2 : t ≠ eI) (u : Value) : OwnX eN eI (w.setCell ⟨g, i, none⟩ u) B v ts X := by
  have hg : w.grownBy (w.setCell ⟨g, i, none⟩ u) (some g) := ⟨rfl, rfl, rfl, by simp, fun k hk hne => Below.heap_setCell _ _ _ _ (fun e => hne (by rw [e]))⟩
  obtain ⟨avs, h1, h2, h3, h4, h5⟩ := h
  exact ⟨avs, h1, h2.kept hg (.inr (own_ne_blkX h2 hb n1)), fun i hi hi' => (h3 i hi hi').kept hg (.inr (own_ne_blkX (h3 i hi hi') hb n2)), h4, h5⟩
theorem OwnX.lt (h : OwnX eN eI w B v ts X) : ∀ b, v.ownBlock = some b → B ≤ b ∧ b < w.heap.size := h.nodes.ownLt
end
end Go.Proofs.YtgcbnndbeoekgaaDoor
