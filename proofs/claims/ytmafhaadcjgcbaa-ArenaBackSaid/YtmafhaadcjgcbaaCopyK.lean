import Derived.Test.YtmafhaadcjgcbaaMut2
import Derived.Lib.Overlaps
import Derived.Lib.AppendZerosOnto
import Derived.Laws.CopyOwn
import Derived.Laws.IdiomCopy
set_option linter.unusedSimpArgs false
set_option linter.unusedVariables false
namespace Go.Proofs.Ytmafhaadcjgcbaa
open Go Go.RowKit

theorem run_copy_rowK {P : Program} (w : World) (dT sT ty elem : TypeId) (k n g o dLen dCap : Nat) (a : Addr) (sLen sCap : Nat) (cur : Array Value) (t : TypeId) (cs : List Value)
    (hu : P.underlying dT = some (.slice elem)) (hs : (P.info? elem).map (·.size) = some k)
    (hg : w.heap[g]? = some (.cells cur t (0, 0))) (hn : n = Nat.min sLen dLen) (hl : cs.length = n * k)
    (hsrc : ∀ j v, cs[j]? = some v → w.cell? (a.add j) = some v) (hfit : o + cs.length ≤ cur.size) (h1 : ∀ v ∈ cs, v.oneCell' = true) :
    (Builtin.copy_ #[dT, sT] ty #[.slice (some ⟨g, o, none⟩) dLen dCap, .slice (some a) sLen sCap]).run P w =
      .ok (goInt n) (w.setRow g (cur.toList.take o ++ cs ++ cur.toList.drop (o + cs.length)).toArray) := by
  have hl' := run_loadCells_list (P := P) w a cs hsrc
  rw [hl] at hl'
  have hst := run_storeCells_at P g o t cs 0 cur w hg (by simpa using hfit) h1
  cases hq : P.info? elem with
  | none => simp [hq] at hs
  | some i =>
    have hi : i.size = k := by simpa [hq] using hs
    simp [Builtin.copy_, run_underlying hu, Builtin.lenOf, Builtin.firstCells, sizeOf, typeInfo, hq, hi, ← hn, hl', hst]

/-- 'copy' whose run is known by an equation: for the walk -/
theorem wpList_copy_eq {P : Program} (w : World) {ops : Array Oper} {rest : List Oper} {o : Oper} {a : Act} {Q : Exit → Act → World → Prop} (hgd : o.guard = none) (d s : Operand) (t t' : TypeId)
    (ho : o.op = .call { callee := .builtin .copy, args := #[d, s], argTypes := #[t, t'] }) (v u : Value) (hd : a.eval d = v) (hs : a.eval s = u) {v' : Value} {w' : World}
    (hr : (Builtin.copy_ #[t, t'] o.type #[v, u]).run P w = .ok v' w') (h : wpList P ops Q rest (a.put o.dst v') w') : wpList P ops Q (o :: rest) a w :=
  wpList_plain hgd fun _ hK => by
    unfold Oper.wp execOp
    simp only [ho, resolve, invoke, builtin, Sem.run_bind, Sem.run_pure, Result.andThen_ok, List.map_toArray, List.map_cons, List.map_nil, hd, hs, hr]
    exact hK _ _ h
theorem step_copy_eq {P : Program} {ops : Array Oper} {o : Oper} {a : Act} {w : World} {K : Act → World → Prop} {Q : Exit → Act → World → Prop} {E : Prop}
    (hg : o.guard = none) (d x : Operand) (dT sT : TypeId) (hop : o.op = Op.call { callee := Callee.builtin Builtin.copy, args := #[d, x], argTypes := #[dT, sT] })
    (v u : Value) (hd : a.eval d = v) (hx : a.eval x = u) {v' : Value} {w' : World} (hr : (Builtin.copy_ #[dT, sT] o.type #[v, u]).run P w = .ok v' w') (hK : K (a.put o.dst v') w') :
    if Region.wanted o (yielded ops a.tmps) = true then Oper.wp P o a w K Q else E := by
  have hw : Region.wanted o (yielded ops a.tmps) = true := by simp [Region.wanted, hg]
  rw [if_pos hw]
  unfold Oper.wp
  simp [execOp, hop, resolve, invoke, builtin, hd, hx, hr, Result.andThen]
  exact hK

section
variable {α : Type} {size : Nat} {f : α → List Value}
theorem flat_take (hf : ∀ x, (f x).length = size) : ∀ (l : List α) (i : Nat), (l.flatMap f).take (i * size) = (l.take i).flatMap f := by
  intro l
  induction l with
  | nil => intro i; simp
  | cons x r ih =>
    intro i
    cases i with
    | zero => simp
    | succ i =>
      rw [List.take_succ_cons, List.flatMap_cons, List.flatMap_cons, ← ih i, List.take_append, hf, List.take_of_length_le (by rw [hf, Nat.add_mul]; omega)]
      congr 2; rw [Nat.add_mul]; omega
theorem flat_drop (hf : ∀ x, (f x).length = size) : ∀ (l : List α) (i : Nat), (l.flatMap f).drop (i * size) = (l.drop i).flatMap f := by
  intro l
  induction l with
  | nil => intro i; simp
  | cons x r ih =>
    intro i
    cases i with
    | zero => simp
    | succ i =>
      rw [List.drop_succ_cons, List.flatMap_cons, ← ih i, List.drop_append, hf, List.drop_of_length_le (by rw [hf, Nat.add_mul]; omega), List.nil_append]
      congr 1; rw [Nat.add_mul]; omega
end
/-- one more element at place i -/
def insAt {α : Type} (l : List α) (i : Nat) (y : α) : List α := l.take i ++ y :: l.drop i
theorem insAt_len {α : Type} {l : List α} {i : Nat} (h : i ≤ l.length) (y : α) : (insAt l i y).length = l.length + 1 := by
  unfold insAt; rw [List.length_append, List.length_cons, List.length_take, List.length_drop]; omega
theorem insAt_end {α : Type} (l : List α) (y : α) : insAt l l.length y = l ++ [y] := by unfold insAt; simp
theorem Blk.row {w : World} {g : Nat} {t : TypeId} {cur : Array Value} (h : Blk w g t cur) (xs : Array Value) : Blk (w.setRow g xs) g t xs := setRow_heap w g _ xs t _ h
theorem size_setRow (w : World) (g : Nat) (xs : Array Value) : (w.setRow g xs).heap.size = w.heap.size := by simp [World.setRow]
theorem grown_setRow {w w' : World} {g : Nat} (h : w.grownBy w' (some g)) (xs : Array Value) : w.grownBy (w'.setRow g xs) (some g) :=
  ⟨h.os, h.tape, h.output, by rw [size_setRow]; exact h.size, fun k hk hne => (setRow_other w' g k xs (fun e => hne (by rw [e]))).trans (h.block k hk hne)⟩
theorem grown_trans {a b c : World} {row : Option Nat} (h : a.grownBy b row) (k : b.grownBy c row) : a.grownBy c row :=
  ⟨k.os.trans h.os, k.tape.trans h.tape, k.output.trans h.output, Nat.le_trans h.size k.size, fun i hi hne => (k.block i (Nat.lt_of_lt_of_le hi h.size) hne).trans (h.block i hi hne)⟩
theorem grown_drew (a : World) (row : Option Nat) : a.grownBy a.drew row := ⟨rfl, rfl, rfl, Nat.le_refl _, fun _ _ _ => rfl⟩
/-- an append whose run lays a new row -/
theorem wpList_append_new {P : Program} (w : World) {ops : Array Oper} {rest : List Oper} {o : Oper} {a : Act} {Q : Exit → Act → World → Prop} (hgd : o.guard = none) (s x : Operand) (t t' : TypeId)
    (ho : o.op = .call { callee := .builtin .append, args := #[s, x], argTypes := #[t, t'] }) (v u : Value) (hd : a.eval s = v) (hs : a.eval x = u) {v' : Value} (e : TypeId) (ROW : Array Value)
    (hr : (Builtin.append_ #[t, t'] o.type #[v, u]).run P w = .ok v' (w.drew.alloc (.cells ROW e))) (h : ∀ w', Hid (Blk w' w.heap.size e ROW) → Hid (Below w.heap.size w w') → wpList P ops Q rest (a.put o.dst v') w') : wpList P ops Q (o :: rest) a w :=
  wpList_plain hgd fun _ hK => by
    unfold Oper.wp execOp
    simp only [ho, resolve, invoke, builtin, Sem.run_bind, Sem.run_pure, Result.andThen_ok, List.map_toArray, List.map_cons, List.map_nil, hd, hs, hr]
    exact hK _ _ (h _ (Blk.new w.drew e ROW) ((Below.refl w.heap.size w).drew.alloc (Nat.le_refl _) _))
/-- cells laid over a row -/
def lay (cur : Array Value) (off : Nat) (cs : List Value) : Array Value := (cur.toList.take off ++ cs ++ cur.toList.drop (off + cs.length)).toArray
theorem lay_list (cur : Array Value) (off : Nat) (cs : List Value) : (lay cur off cs).toList = cur.toList.take off ++ cs ++ cur.toList.drop (off + cs.length) := rfl
theorem lay_size {cur : Array Value} {off : Nat} {cs : List Value} (h : off + cs.length ≤ cur.size) : (lay cur off cs).size = cur.size := by
  have : cur.toList.length = cur.size := rfl
  simp [lay]; omega
theorem wpList_copyK {P : Program} (w : World) {ops : Array Oper} {rest : List Oper} {o : Oper} {a : Act} {Q : Exit → Act → World → Prop} (hgd : o.guard = none) (d s : Operand) (dT sT : TypeId)
    (ho : o.op = .call { callee := .builtin .copy, args := #[d, s], argTypes := #[dT, sT] }) (elem : TypeId) (hu : P.underlying dT = some (.slice elem)) (k : Nat) (hsz : (P.info? elem).map (·.size) = some k)
    (n g off dLen dCap : Nat) (ad : Addr) (sLen sCap : Nat) (hd : a.eval d = .slice (some ⟨g, off, none⟩) dLen dCap) (hs : a.eval s = .slice (some ad) sLen sCap)
    (cur : Array Value) (t : TypeId) (hg : Blk w g t cur) (cs : List Value) (hn : n = Nat.min sLen dLen) (hl : cs.length = n * k)
    (hsrc : ∀ j v, cs[j]? = some v → w.cell? (ad.add j) = some v) (hfit : off + cs.length ≤ cur.size) (h1 : ∀ v ∈ cs, v.oneCell' = true)
    (h : ∀ w', Hid (Blk w' g t (lay cur off cs)) → Hid (w.grownBy w' (some g)) → wpList P ops Q rest (a.put o.dst (goInt n)) w') :
    wpList P ops Q (o :: rest) a w :=
  wpList_copy_eq w hgd d s dT sT ho _ _ hd hs (run_copy_rowK w dT sT o.type elem k n g off dLen dCap ad sLen sCap cur t cs hu hsz hg hn hl hsrc hfit h1) (h _ (hg.row _) (grown_setRow (World.grownBy.refl w _) _))
theorem step_copyK {P : Program} {ops : Array Oper} {o : Oper} {a : Act} {w : World} {K : Act → World → Prop} {Q : Exit → Act → World → Prop} {E : Prop}
    (hgd : o.guard = none) (d s : Operand) (dT sT : TypeId)
    (ho : o.op = .call { callee := .builtin .copy, args := #[d, s], argTypes := #[dT, sT] }) (elem : TypeId) (hu : P.underlying dT = some (.slice elem)) (k : Nat) (hsz : (P.info? elem).map (·.size) = some k)
    (n g off dLen dCap : Nat) (ad : Addr) (sLen sCap : Nat) (hd : a.eval d = .slice (some ⟨g, off, none⟩) dLen dCap) (hs : a.eval s = .slice (some ad) sLen sCap)
    (cur : Array Value) (t : TypeId) (hg : Blk w g t cur) (cs : List Value) (hn : n = Nat.min sLen dLen) (hl : cs.length = n * k)
    (hsrc : ∀ j v, cs[j]? = some v → w.cell? (ad.add j) = some v) (hfit : off + cs.length ≤ cur.size) (h1 : ∀ v ∈ cs, v.oneCell' = true)
    (h : ∀ w', Hid (Blk w' g t (lay cur off cs)) → Hid (w.grownBy w' (some g)) → K (a.put o.dst (goInt n)) w') :
    if Region.wanted o (yielded ops a.tmps) = true then Oper.wp P o a w K Q else E :=
  step_copy_eq hgd d s dT sT ho _ _ hd hs (run_copy_rowK w dT sT o.type elem k n g off dLen dCap ad sLen sCap cur t cs hu hsz hg hn hl hsrc hfit h1) (h _ (hg.row _) (grown_setRow (World.grownBy.refl w _) _))
/-- laid over a row from place (i + 1) on, then at place i -/
theorem shift_list {α : Type} {size : Nat} {f : α → List Value} (hf : ∀ x, (f x).length = size) {l : List α} {C : List Value} {i cap : Nat} (hi : i < l.length) (hC : C.take (l.length * size) = l.flatMap f) (hsz : C.length = cap * size) (hroom : l.length + 1 ≤ cap) (y : α) :
    ((((C.take ((i + 1) * size) ++ (l.drop i).flatMap f ++ C.drop ((i + 1) * size + ((l.drop i).flatMap f).length)).take (i * size)) ++ f y ++ (C.take ((i + 1) * size) ++ (l.drop i).flatMap f ++ C.drop ((i + 1) * size + ((l.drop i).flatMap f).length)).drop (i * size + (f y).length)).take ((l.length + 1) * size)) = (insAt l i y).flatMap f := by
  have e1 : (i + 1) * size = i * size + size := by rw [Nat.add_mul]; omega
  have e2 : (l.length + 1) * size = l.length * size + size := by rw [Nat.add_mul]; omega
  have hil : i * size ≤ l.length * size := Nat.mul_le_mul_right _ (by omega)
  have hil2 : (i + 1) * size ≤ l.length * size := Nat.mul_le_mul_right _ (by omega)
  have hcl : (l.length + 1) * size ≤ cap * size := Nat.mul_le_mul_right _ hroom
  have hd : ((l.drop i).flatMap f).length = l.length * size - i * size := by rw [flat_length hf, List.length_drop, Nat.sub_mul]
  have t1 : (C.take ((i + 1) * size)).length = (i + 1) * size := by rw [List.length_take]; omega
  have a1 : (C.take ((i + 1) * size) ++ (l.drop i).flatMap f ++ C.drop ((i + 1) * size + ((l.drop i).flatMap f).length)).take (i * size) = (l.take i).flatMap f := by
    rw [List.append_assoc, List.take_append_of_le_length (by omega), List.take_take, Nat.min_eq_left (by omega)]
    have : C.take (i * size) = (C.take (l.length * size)).take (i * size) := by rw [List.take_take, Nat.min_eq_left hil]
    rw [this, hC, flat_take hf]
  have a2 : (C.take ((i + 1) * size) ++ (l.drop i).flatMap f ++ C.drop ((i + 1) * size + ((l.drop i).flatMap f).length)).drop (i * size + (f y).length) = (l.drop i).flatMap f ++ C.drop ((i + 1) * size + ((l.drop i).flatMap f).length) := by
    rw [hf, ← e1, List.append_assoc, List.drop_append_of_le_length (by omega), List.drop_of_length_le (by omega), List.nil_append]
  rw [a1, a2]
  have hl1 : ((l.take i).flatMap f).length = i * size := by rw [flat_length hf, List.length_take, Nat.min_eq_left (by omega)]
  rw [← List.append_assoc, List.take_append_of_le_length (by simp only [List.length_append, hl1, hf, hd]; omega), List.take_of_length_le (by simp only [List.length_append, hl1, hf, hd]; omega)]
  unfold insAt
  rw [List.flatMap_append, List.flatMap_cons, List.append_assoc]
/-- laid over a new row at place i, then from (i + 1) on -/
theorem grow_list {α : Type} {size : Nat} {f : α → List Value} (hf : ∀ x, (f x).length = size) {l : List α} {Z : List Value} {i G : Nat} (hi : i < l.length) (hG : l.length + 1 ≤ G) (hZ : Z.length = (G - i) * size) (y : α) {R : List Value} (hR : R = (l.take i).flatMap f ++ Z) :
    (((R.take (i * size) ++ f y ++ R.drop (i * size + (f y).length)).take ((i + 1) * size) ++ (l.drop i).flatMap f ++ (R.take (i * size) ++ f y ++ R.drop (i * size + (f y).length)).drop ((i + 1) * size + ((l.drop i).flatMap f).length)).take ((l.length + 1) * size)) = (insAt l i y).flatMap f := by
  have e1 : (i + 1) * size = i * size + size := by rw [Nat.add_mul]; omega
  have e2 : (l.length + 1) * size = l.length * size + size := by rw [Nat.add_mul]; omega
  have hil : i * size ≤ l.length * size := Nat.mul_le_mul_right _ (by omega)
  have hd : ((l.drop i).flatMap f).length = l.length * size - i * size := by rw [flat_length hf, List.length_drop, Nat.sub_mul]
  have hl1 : ((l.take i).flatMap f).length = i * size := by rw [flat_length hf, List.length_take, Nat.min_eq_left (by omega)]
  have hR1 : R.take (i * size) = (l.take i).flatMap f := by rw [hR, List.take_append_of_le_length (by omega), List.take_of_length_le (by omega)]
  rw [hR1]
  have a1 : ((l.take i).flatMap f ++ f y ++ R.drop (i * size + (f y).length)).take ((i + 1) * size) = (l.take i).flatMap f ++ f y := by
    rw [List.take_append_of_le_length (by simp only [List.length_append, hl1, hf]; omega), List.take_of_length_le (by simp only [List.length_append, hl1, hf]; omega)]
  rw [a1, List.take_append_of_le_length (by simp only [List.length_append, hl1, hf, hd]; omega), List.take_of_length_le (by simp only [List.length_append, hl1, hf, hd]; omega)]
  unfold insAt
  rw [List.flatMap_append, List.flatMap_cons, List.append_assoc]
end Go.Proofs.Ytmafhaadcjgcbaa
