import Derived.Test.YtgcbnndbeoekgaaTermC
set_option linter.unusedSimpArgs false
set_option linter.unusedVariables false
namespace Go.Proofs.Ytgcbnndbeoekgaa
open Go Go.RowKit

/-! ### Nodes that the call builds, and one row of numbers beside -/
structure Fam (eI : TypeId) (w : World) (B : Nat) (avs : List Value) (xss : List (List Int)) : Prop where
  len : avs.length = xss.length
  own : ∀ i (h : i < avs.length) (h' : i < xss.length), w.ownsRow B eI 1 avs[i] xss[i].length (xss[i].map (.int .i64))
  apart : ∀ i j (h : i < avs.length) (h' : j < avs.length), i ≠ j → ∀ b, avs[i].ownBlock = some b → avs[j].ownBlock ≠ some b

section
variable {eN eI : TypeId} {w w' : World} {B : Nat} {avs : List Value} {xss : List (List Int)}
theorem Fam.kept (h : Fam eI w B avs xss) {row : Option Nat} (hg : w.grownBy w' row) (hr : ∀ i (h : i < avs.length), avs[i].ownBlock = none ∨ avs[i].ownBlock ≠ row) : Fam eI w' B avs xss :=
  ⟨h.len, fun i hi hi' => (h.own i hi hi').kept hg (hr i hi), h.apart⟩
theorem Fam.nil (h : Fam eI w B avs xss) : Fam eI w B (avs ++ [.slice none 0 0]) (xss ++ [[]]) := by
  refine ⟨by simp [h.len], fun i hi hi' => ?_, fun i j hi hj hij b hb => ?_⟩
  · by_cases hlt : i < avs.length
    · have hlt' : i < xss.length := by rw [← h.len]; exact hlt
      rw [List.getElem_append_left hlt]
      simp only [List.getElem_append_left hlt']
      exact h.own i hlt hlt'
    · have e : i = avs.length := by simp at hi; omega
      subst e
      have e2 := h.len
      rw [List.getElem_append_right (by omega)]
      simp only [List.getElem_append_right (show xss.length ≤ avs.length by omega)]
      simp
      exact World.ownsRow_nil _ _ _ _
  · by_cases hi2 : i < avs.length
    · rw [List.getElem_append_left hi2] at hb
      by_cases hj2 : j < avs.length
      · rw [List.getElem_append_left hj2]; exact h.apart i j hi2 hj2 hij b hb
      · have e : j = avs.length := by simp at hj; omega
        subst e
        rw [List.getElem_append_right (by omega)]; simp [Value.ownBlock]
    · have e : i = avs.length := by simp at hi; omega
      subst e
      rw [List.getElem_append_right (by omega)] at hb
      simp [Value.ownBlock] at hb
/-- one row has become another, in memory of its own -/
theorem Fam.turn (h : Fam eI w B avs xss) {k : Nat} (hk : k < avs.length) {av' : Value} {xs : List Int} (hg : w.grownBy w' avs[k].ownBlock) (ho : w'.ownsRow B eI 1 av' xs.length (xs.map (.int .i64)))
    (hat : av'.ownBlock = avs[k].ownBlock ∨ av'.ownBlock = some w.heap.size) : Fam eI w' B (avs.set k av') (xss.set k xs) := by
  refine ⟨by simp [h.len], fun i hi hi' => ?_, fun i j hi hj hij b hb => ?_⟩
  · have hi2 : i < avs.length := by simpa using hi
    have hi3 : i < xss.length := by simpa using hi'
    by_cases hik : k = i
    · subst hik; simp only [List.getElem_set_self]; exact ho
    · simp only [List.getElem_set_ne hik]
      refine (h.own i hi2 hi3).kept hg ?_
      cases hb : avs[i].ownBlock with
      | none => exact .inl rfl
      | some b => exact .inr fun e => h.apart i k hi2 hk (fun e => hik e.symm) b hb e.symm
  · have hi2 : i < avs.length := by simpa using hi
    have hj2 : j < avs.length := by simpa using hj
    have old : ∀ m (hm : m < avs.length), k ≠ m → ∀ b, avs[m].ownBlock = some b → av'.ownBlock ≠ some b := by
      intro m hm hkm b hb e
      rcases hat with e2 | e2
      · rw [e2] at e; exact h.apart m k hm hk (fun e => hkm e.symm) b hb e
      · rw [e2] at e; injection e with e
        have := ((h.own m hm (by have := h.len; omega)).lt b hb).2
        omega
    by_cases hik : k = i
    · subst hik
      rw [List.getElem_set_self] at hb
      rw [List.getElem_set_ne hij]
      exact fun e => old j hj2 hij b e hb
    · rw [List.getElem_set_ne hik] at hb
      by_cases hjk : k = j
      · subst hjk; rw [List.getElem_set_self]; exact old i hi2 hik b hb
      · rw [List.getElem_set_ne hjk]; exact h.apart i j hi2 hj2 hij b hb
end

/-- the nodes, their arguments, and the terms that are open -/
def OwnBoth (eN eI : TypeId) (w : World) (B : Nat) (v : Value) (ts : List TN) (ov : Value) (op : List Int) : Prop :=
  ∃ avs : List Value, avs.length = ts.length ∧ w.ownsRow B eN 3 v ts.length (rowCells ts avs) ∧ Fam eI w B (ov :: avs) (op :: ts.map TN.args)

section
variable {eN eI : TypeId} {w w' : World} {B : Nat} {v ov : Value} {ts : List TN} {op : List Int}
theorem OwnBoth.start (w : World) (B : Nat) : OwnBoth eN eI w B (.slice none 0 0) [] (.slice none 0 0) [] := by
  refine ⟨[], rfl, World.ownsRow_nil _ _ _ _, rfl, fun i h h' => ?_, fun i j h h' hij => ?_⟩
  · have : i = 0 := by simp at h; omega
    subst this; exact World.ownsRow_nil _ _ _ _
  · simp at h h'; omega
theorem OwnBoth.nodes (h : OwnBoth eN eI w B v ts ov op) : OwnNodes eN eI w B v ts := by
  obtain ⟨avs, h1, h2, h3⟩ := h
  refine ⟨avs, h1, h2, fun i hi hi' => ?_, fun i j hi hj hij => h3.apart (i + 1) (j + 1) (by simpa using hi) (by simpa using hj) (by omega)⟩
  have := h3.own (i + 1) (by simpa using hi') (by simpa using hi)
  simpa using this
theorem OwnBoth.open_ (h : OwnBoth eN eI w B v ts ov op) : w.ownsRow B eI 1 ov op.length (op.map (.int .i64)) := by
  obtain ⟨avs, h1, h2, h3⟩ := h
  exact h3.own 0 (by simp) (by simp)
theorem OwnBoth.kept (hne : eN ≠ eI) (h : OwnBoth eN eI w B v ts ov op) {row : Option Nat} (hg : w.grownBy w' row) (hr : ∀ b, row = some b → w.heap.size ≤ b) : OwnBoth eN eI w' B v ts ov op := by
  obtain ⟨avs, h1, h2, h3⟩ := h
  have key : ∀ {e size n} {x : Value} {xs : List Value}, w.ownsRow B e size x n xs → x.ownBlock = none ∨ x.ownBlock ≠ row := by
    intro e size n x xs hx
    cases hb : x.ownBlock with
    | none => exact .inl rfl
    | some b => exact .inr fun e => by have := (hx.lt b hb).2; have := hr b e.symm; omega
  exact ⟨avs, h1, h2.kept hg (key h2), h3.kept hg fun i hi => key (h3.own i hi (by rw [← h3.len]; exact hi))⟩
theorem OwnBoth.below (hne : eN ≠ eI) (h : OwnBoth eN eI w B v ts ov op) (hb : Below w.heap.size w w') : OwnBoth eN eI w' B v ts ov op :=
  h.kept hne (row := none) ⟨hb.os, hb.tape, hb.output, hb.size, fun k hk _ => hb.block k hk⟩ (fun b e => by cases e)
/-- a node more -/
theorem OwnBoth.push (hne : eN ≠ eI) {avs : List Value} (h1 : avs.length = ts.length) (h2 : w.ownsRow B eN 3 v ts.length (rowCells ts avs)) (h3 : Fam eI w B (ov :: avs) (op :: ts.map TN.args)) {y : TN} (hy : y.args = []) {v' : Value}
    (ho : w'.ownsRow B eN 3 v' (ts.length + 1) (rowCells ts avs ++ nodeCells y (.slice none 0 0))) (hg : w.grownBy w' v.ownBlock) : OwnBoth eN eI w' B v' (ts ++ [y]) ov op := by
  refine ⟨avs ++ [.slice none 0 0], by simp [h1], by rw [rowCells_snoc _ _ _ _ h1]; simpa using ho, ?_⟩
  have := (h3.kept hg fun i hi => ?_).nil
  · simpa [hy] using this
  · have hi' : i < (op :: ts.map TN.args).length := by rw [← h3.len]; exact hi
    cases hb : ((ov :: avs)[i]).ownBlock with
    | none => exact .inl rfl
    | some b => exact .inr fun e => own_type_ne (h3.own i hi hi') h2 (fun e => hne e.symm) b hb e.symm
/-- an open term more, or less -/
theorem OwnBoth.turn (hne : eN ≠ eI) (h : OwnBoth eN eI w B v ts ov op) {ov' : Value} {op' : List Int} (hg : w.grownBy w' ov.ownBlock) (ho : w'.ownsRow B eI 1 ov' op'.length (op'.map (.int .i64)))
    (hat : ov'.ownBlock = ov.ownBlock ∨ ov'.ownBlock = some w.heap.size) : OwnBoth eN eI w' B v ts ov' op' := by
  obtain ⟨avs, h1, h2, h3⟩ := h
  have h0 := h3.own 0 (by simp) (by simp)
  refine ⟨avs, h1, h2.kept hg ?_, ?_⟩
  · cases hb : v.ownBlock with
    | none => exact .inl rfl
    | some b => exact .inr fun e => own_type_ne h2 h0 hne b hb e.symm
  · have := h3.turn (k := 0) (by simp) (av' := ov') (xs := op') hg ho hat
    simpa using this
/-- a node has an argument more -/
theorem OwnBoth.moreArg (hne : eN ≠ eI) {g cap n : Nat} (h : OwnBoth eN eI w B (.slice (some ⟨g, 0, none⟩) n cap) ts ov op) {i : Nat} (hi : i < ts.length) {av av' : Value} (hav : w.cell? ⟨g, i * 3 + 2, none⟩ = some av) {x : Nat}
    (ho : w'.ownsRow B eI 1 av' (ts[i].args.length + 1) (ts[i].args.map (.int .i64) ++ [.int .i64 x])) (hg : w.grownBy w' av.ownBlock) (hat : av'.ownBlock = av.ownBlock ∨ av'.ownBlock = some w.heap.size) :
    OwnBoth eN eI (w'.setCell ⟨g, i * 3 + 2, none⟩ av') B (.slice (some ⟨g, 0, none⟩) n cap) (addArg ts i x) ov op := by
  obtain ⟨avs, h1, h2, h3⟩ := h
  have hn : ts.length = n := by
    obtain ⟨A, c, e⟩ := own_shape h2
    injection e with _ e _
    exact e.symm
  subst hn
  have hi' : i < avs.length := by omega
  have eav : av = avs[i] := by
    have h5 := h2.cellAt (i * 3 + 2) (by omega)
    rw [rowCells_get hi hi' (by omega), hav] at h5
    exact Option.some.inj h5
  subst eav
  have hrow := h3.own (i + 1) (by simpa using hi') (by simpa using hi)
  simp only [List.getElem_cons_succ, List.getElem_map] at hrow
  have h2' : w'.ownsRow B eN 3 (.slice (some ⟨g, 0, none⟩) ts.length cap) ts.length (rowCells ts avs) := h2.kept hg (by
    cases hb : avs[i].ownBlock with
    | none => exact .inr (by simp [Value.ownBlock])
    | some b => exact .inr fun e => own_type_ne hrow h2 (fun e => hne e.symm) b hb (by rw [e]))
  have f1 := h3.turn (k := i + 1) (by simpa using hi') (av' := av') (xs := ts[i].args ++ [(x : Int)]) (by simpa using hg) (by simpa using ho) (by simpa using hat)
  obtain ⟨s1, s2⟩ := h2'.stored (i * 3 + 2) av'
  have f2 := f1.kept s2 (fun j hj => by
    have hj' : j < ((op :: ts.map TN.args).set (i + 1) (ts[i].args ++ [(x : Int)])).length := by rw [← f1.len]; exact hj
    cases hb : (((ov :: avs).set (i + 1) av')[j]).ownBlock with
    | none => exact .inl rfl
    | some b => exact .inr fun e => own_type_ne (f1.own j hj hj') h2' (fun e => hne e.symm) b hb (by rw [e]; rfl))
  rw [addArg_at hi]
  refine ⟨avs.set i av', by simp [h1], ?_, ?_⟩
  · rw [rowCells_set (t := { ts[i] with args := ts[i].args ++ [(x : Int)] }) (a := av') h1 hi (by omega) (by simp [nodeCells])] at s1
    simpa using s1
  · have e : (ts.set i { ts[i] with args := ts[i].args ++ [(x : Int)] }).map TN.args = (ts.map TN.args).set i (ts[i].args ++ [(x : Int)]) := by rw [List.map_set]
    rw [e]
    simpa using f2
/-- the last one is closed -/
theorem own_less {g n cap : Nat} {xs : List Int} {x : Int} (h : w.ownsRow B eI 1 (.slice (some ⟨g, 0, none⟩) n cap) n ((xs ++ [x]).map (.int .i64))) : w.ownsRow B eI 1 (.slice (some ⟨g, 0, none⟩) (n - 1) cap) xs.length (xs.map (.int .i64)) := by
  have hl := h.1
  simp at hl
  rcases h.2 with ⟨e, _⟩ | ⟨g', cap', cur, e, h1, h2, h3, h4, h5, h6⟩
  · cases e
  · injection e with e1 e2 e3
    injection e1 with e1
    injection e1 with e1
    subst e1; subst e3
    refine ⟨by simp, .inr ⟨g, cap, cur, by rw [← hl]; simp, h1, h2, by omega, h4, h5, ?_⟩⟩
    have := congrArg (List.take xs.length) h6
    rw [List.take_take, ← hl] at this
    simpa using this
end
theorem wpList_pushBoth {P : Program} (w : World) {eN eI : TypeId} (hne : eN ≠ eI) {ops : Array Oper} {rest : List Oper} {o : Oper} {a : Act} {Q : Exit → Act → World → Prop} (hgd : o.guard = none) (s x : Operand) (t : TypeId)
    (ho : o.op = .call { callee := .builtin .append, args := #[s, x], argTypes := #[t, t] })
    (base : Nat) {z : Value} {bytes : Nat} (ht : P.underlying t = some (.slice eN)) (hinfo : (P.info? eN).map (fun i => (i.zero, i.size, i.bytes)) = some (some z, 3, bytes)) (hzs : z.cells.size = 3)
    (v : Value) (ts : List TN) (ov : Value) (op : List Int) (hs : a.eval s = v) (hown : OwnBoth eN eI w base v ts ov op)
    (y : TN) (hy : y.args = []) (ad : Addr) (c : Nat) (hx : a.eval x = .slice (some ad) 1 c) (hcs : ∀ j u, (nodeCells y (.slice none 0 0))[j]? = some u → w.cell? (ad.add j) = some u)
    (h63 : ts.length + 1 ≤ maxLen) (hbytes : (ts.length + 1) * bytes ≤ 140737488355328) (hbase : base ≤ w.heap.size)
    (h : ∀ A' c' w', OwnBoth eN eI w' base (.slice A' (ts.length + 1) c') (ts ++ [y]) ov op → w.grownBy w' v.ownBlock → wpList P ops Q rest (a.put o.dst (.slice A' (ts.length + 1) c')) w') : wpList P ops Q (o :: rest) a w := by
  refine wpList_plain hgd fun K hK => ?_
  obtain ⟨avs, h1, h2, h3⟩ := hown
  exact wp_append_from w s x t ho base eN ht hinfo hzs (by omega) v ts.length (rowCells ts avs) hs h2 (some ad) 1 c (nodeCells y (.slice none 0 0)) hx rfl (by simp) (fun ad' e => by cases e; exact hcs) (by intro u hu; simp [nodeCells] at hu; rcases hu with rfl | rfl | rfl <;> rfl) h63 hbytes hbase
    fun A' c' w' g2 g3 _ => hK _ _ (h A' c' w' (OwnBoth.push hne h1 h2 h3 hy g2 g3) g3)
end Go.Proofs.Ytgcbnndbeoekgaa
