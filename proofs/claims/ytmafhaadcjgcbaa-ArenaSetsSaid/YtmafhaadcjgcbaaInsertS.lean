import Derived.Test.YtmafhaadcjgcbaaMut3
import Derived.Lib.Overlaps
import Derived.Lib.AppendZerosOnto
import Derived.Laws.CopyOwn
import Derived.Laws.IdiomCopy
import Derived.Test.YtmafhaadcjgcbaaALent
import Derived.Deep.RegionLaw
section
namespace Go.Proofs.Ytmafhaadcjgcbaa
open Go Go.RowKit

theorem run_copy_rowK {P : Program} (w : World) (dT sT ty elem : TypeId) (k n g o dLen dCap : Nat) (a : Addr) (sLen sCap : Nat) (cur : Array Value) (t : TypeId) (cs : List Value)
    (hu : P.underlying dT = some (.slice elem)) (hs : (P.info? elem).map (·.size) = some k)
    (hg : w.heap[g]? = some (.cells cur t (0, 0))) (hn : n = Nat.min sLen dLen) (hl : cs.length = n * k)
    (hsrc : ∀ j v, cs[j]? = some v → w.cell? (a.add j) = some v) (hfit : o + cs.length ≤ cur.size) (h1 : ∀ v ∈ cs, v.oneCell' = true) :
    (Builtin.copy_ #[dT, sT] ty #[.slice (some ⟨g, o, none⟩) dLen dCap, .slice (some a) sLen sCap]).run P w =
      .ok (goInt n) (w.setRow g (cur.toList.take o ++ cs ++ cur.toList.drop (o + cs.length)).toArray) := by
  have hl' := run_loadCells_list (P := P) w a cs hsrc
  rw [hl] at hl'
  have hst := run_storeCells_at P g o t cs 0 cur w hg (by simpa using hfit) h1
  cases hq : P.info? elem with
  | none => simp [hq] at hs
  | some i =>
    have hi : i.size = k := by simpa [hq] using hs
    simp [Builtin.copy_, run_underlying hu, Builtin.lenOf, Builtin.firstCells, sizeOf, typeInfo, hq, hi, ← hn, hl', hst]

/-- 'copy' whose run is known by an equation: for the walk -/
theorem wpList_copy_eq {P : Program} (w : World) {ops : Array Oper} {rest : List Oper} {o : Oper} {a : Act} {Q : Exit → Act → World → Prop} (hgd : o.guard = none) (d s : Operand) (t t' : TypeId)
    (ho : o.op = .call { callee := .builtin .copy, args := #[d, s], argTypes := #[t, t'] }) (v u : Value) (hd : a.eval d = v) (hs : a.eval s = u) {v' : Value} {w' : World}
    (hr : (Builtin.copy_ #[t, t'] o.type #[v, u]).run P w = .ok v' w') (h : wpList P ops Q rest (a.put o.dst v') w') : wpList P ops Q (o :: rest) a w :=
  wpList_plain hgd fun _ hK => by
    unfold Oper.wp execOp
    simp only [ho, resolve, invoke, builtin, Sem.run_bind, Sem.run_pure, Result.andThen_ok, List.map_toArray, List.map_cons, List.map_nil, hd, hs, hr]
    exact hK _ _ h
theorem step_copy_eq {P : Program} {ops : Array Oper} {o : Oper} {a : Act} {w : World} {K : Act → World → Prop} {Q : Exit → Act → World → Prop} {E : Prop}
    (hg : o.guard = none) (d x : Operand) (dT sT : TypeId) (hop : o.op = Op.call { callee := Callee.builtin Builtin.copy, args := #[d, x], argTypes := #[dT, sT] })
    (v u : Value) (hd : a.eval d = v) (hx : a.eval x = u) {v' : Value} {w' : World} (hr : (Builtin.copy_ #[dT, sT] o.type #[v, u]).run P w = .ok v' w') (hK : K (a.put o.dst v') w') :
    if Region.wanted o (yielded ops a.tmps) = true then Oper.wp P o a w K Q else E := by
  have hw : Region.wanted o (yielded ops a.tmps) = true := by simp [Region.wanted, hg]
  rw [if_pos hw]
  unfold Oper.wp
  simp [execOp, hop, resolve, invoke, builtin, hd, hx, hr, Result.andThen]
  exact hK

section
variable {α : Type} {size : Nat} {f : α → List Value}
theorem flat_len (hf : ∀ x, (f x).length = size) (l : List α) : (l.flatMap f).length = l.length * size := flat_length hf l
theorem flat_take (hf : ∀ x, (f x).length = size) : ∀ (l : List α) (i : Nat), (l.flatMap f).take (i * size) = (l.take i).flatMap f := by
  intro l
  induction l with
  | nil => intro i; simp
  | cons x r ih =>
    intro i
    cases i with
    | zero => simp
    | succ i =>
      rw [List.take_succ_cons, List.flatMap_cons, List.flatMap_cons, ← ih i, List.take_append, hf, List.take_of_length_le (by rw [hf, Nat.add_mul]; omega)]
      congr 2; rw [Nat.add_mul]; omega
theorem flat_drop (hf : ∀ x, (f x).length = size) : ∀ (l : List α) (i : Nat), (l.flatMap f).drop (i * size) = (l.drop i).flatMap f := by
  intro l
  induction l with
  | nil => intro i; simp
  | cons x r ih =>
    intro i
    cases i with
    | zero => simp
    | succ i =>
      rw [List.drop_succ_cons, List.flatMap_cons, ← ih i, List.drop_append, hf, List.drop_of_length_le (by rw [hf, Nat.add_mul]; omega), List.nil_append]
      congr 1; rw [Nat.add_mul]; omega
end
/-- one more element at place i -/
def insAt {α : Type} (l : List α) (i : Nat) (y : α) : List α := l.take i ++ y :: l.drop i
theorem insAt_len {α : Type} {l : List α} {i : Nat} (h : i ≤ l.length) (y : α) : (insAt l i y).length = l.length + 1 := by
  unfold insAt; rw [List.length_append, List.length_cons, List.length_take, List.length_drop]; omega
theorem insAt_end {α : Type} (l : List α) (y : α) : insAt l l.length y = l ++ [y] := by unfold insAt; simp
theorem Blk.row {w : World} {g : Nat} {t : TypeId} {cur : Array Value} (h : Blk w g t cur) (xs : Array Value) : Blk (w.setRow g xs) g t xs := setRow_heap w g _ xs t _ h
theorem size_setRow (w : World) (g : Nat) (xs : Array Value) : (w.setRow g xs).heap.size = w.heap.size := by simp [World.setRow]
theorem grown_setRow {w w' : World} {g : Nat} (h : w.grownBy w' (some g)) (xs : Array Value) : w.grownBy (w'.setRow g xs) (some g) :=
  ⟨h.os, h.tape, h.output, by rw [size_setRow]; exact h.size, fun k hk hne => (setRow_other w' g k xs (fun e => hne (by rw [e]))).trans (h.block k hk hne)⟩
theorem grown_trans {a b c : World} {row : Option Nat} (h : a.grownBy b row) (k : b.grownBy c row) : a.grownBy c row :=
  ⟨k.os.trans h.os, k.tape.trans h.tape, k.output.trans h.output, Nat.le_trans h.size k.size, fun i hi hne => (k.block i (Nat.lt_of_lt_of_le hi h.size) hne).trans (h.block i hi hne)⟩
theorem grown_drew (a : World) (row : Option Nat) : a.grownBy a.drew row := ⟨rfl, rfl, rfl, Nat.le_refl _, fun _ _ _ => rfl⟩
/-- an append whose run lays a new row -/
theorem wpList_append_new {P : Program} (w : World) {ops : Array Oper} {rest : List Oper} {o : Oper} {a : Act} {Q : Exit → Act → World → Prop} (hgd : o.guard = none) (s x : Operand) (t t' : TypeId)
    (ho : o.op = .call { callee := .builtin .append, args := #[s, x], argTypes := #[t, t'] }) (v u : Value) (hd : a.eval s = v) (hs : a.eval x = u) {v' : Value} (e : TypeId) (ROW : Array Value)
    (hr : (Builtin.append_ #[t, t'] o.type #[v, u]).run P w = .ok v' (w.drew.alloc (.cells ROW e))) (h : ∀ w', Hid (Blk w' w.heap.size e ROW) → Hid (Below w.heap.size w w') → wpList P ops Q rest (a.put o.dst v') w') : wpList P ops Q (o :: rest) a w :=
  wpList_plain hgd fun _ hK => by
    unfold Oper.wp execOp
    simp only [ho, resolve, invoke, builtin, Sem.run_bind, Sem.run_pure, Result.andThen_ok, List.map_toArray, List.map_cons, List.map_nil, hd, hs, hr]
    exact hK _ _ (h _ (Blk.new w.drew e ROW) ((Below.refl w.heap.size w).drew.alloc (Nat.le_refl _) _))
/-- cells laid over a row -/
def lay (cur : Array Value) (off : Nat) (cs : List Value) : Array Value := (cur.toList.take off ++ cs ++ cur.toList.drop (off + cs.length)).toArray
theorem lay_list (cur : Array Value) (off : Nat) (cs : List Value) : (lay cur off cs).toList = cur.toList.take off ++ cs ++ cur.toList.drop (off + cs.length) := rfl
theorem lay_size {cur : Array Value} {off : Nat} {cs : List Value} (h : off + cs.length ≤ cur.size) : (lay cur off cs).size = cur.size := by
  have : cur.toList.length = cur.size := rfl
  simp [lay]; omega
theorem wpList_copyK {P : Program} (w : World) {ops : Array Oper} {rest : List Oper} {o : Oper} {a : Act} {Q : Exit → Act → World → Prop} (hgd : o.guard = none) (d s : Operand) (dT sT : TypeId)
    (ho : o.op = .call { callee := .builtin .copy, args := #[d, s], argTypes := #[dT, sT] }) (elem : TypeId) (hu : P.underlying dT = some (.slice elem)) (k : Nat) (hsz : (P.info? elem).map (·.size) = some k)
    (n g off dLen dCap : Nat) (ad : Addr) (sLen sCap : Nat) (hd : a.eval d = .slice (some ⟨g, off, none⟩) dLen dCap) (hs : a.eval s = .slice (some ad) sLen sCap)
    (cur : Array Value) (t : TypeId) (hg : Blk w g t cur) (cs : List Value) (hn : n = Nat.min sLen dLen) (hl : cs.length = n * k)
    (hsrc : ∀ j v, cs[j]? = some v → w.cell? (ad.add j) = some v) (hfit : off + cs.length ≤ cur.size) (h1 : ∀ v ∈ cs, v.oneCell' = true)
    (h : ∀ w', Hid (Blk w' g t (lay cur off cs)) → Hid (w.grownBy w' (some g)) → wpList P ops Q rest (a.put o.dst (goInt n)) w') :
    wpList P ops Q (o :: rest) a w :=
  wpList_copy_eq w hgd d s dT sT ho _ _ hd hs (run_copy_rowK w dT sT o.type elem k n g off dLen dCap ad sLen sCap cur t cs hu hsz hg hn hl hsrc hfit h1) (h _ (hg.row _) (grown_setRow (World.grownBy.refl w _) _))
theorem step_copyK {P : Program} {ops : Array Oper} {o : Oper} {a : Act} {w : World} {K : Act → World → Prop} {Q : Exit → Act → World → Prop} {E : Prop}
    (hgd : o.guard = none) (d s : Operand) (dT sT : TypeId)
    (ho : o.op = .call { callee := .builtin .copy, args := #[d, s], argTypes := #[dT, sT] }) (elem : TypeId) (hu : P.underlying dT = some (.slice elem)) (k : Nat) (hsz : (P.info? elem).map (·.size) = some k)
    (n g off dLen dCap : Nat) (ad : Addr) (sLen sCap : Nat) (hd : a.eval d = .slice (some ⟨g, off, none⟩) dLen dCap) (hs : a.eval s = .slice (some ad) sLen sCap)
    (cur : Array Value) (t : TypeId) (hg : Blk w g t cur) (cs : List Value) (hn : n = Nat.min sLen dLen) (hl : cs.length = n * k)
    (hsrc : ∀ j v, cs[j]? = some v → w.cell? (ad.add j) = some v) (hfit : off + cs.length ≤ cur.size) (h1 : ∀ v ∈ cs, v.oneCell' = true)
    (h : ∀ w', Hid (Blk w' g t (lay cur off cs)) → Hid (w.grownBy w' (some g)) → K (a.put o.dst (goInt n)) w') :
    if Region.wanted o (yielded ops a.tmps) = true then Oper.wp P o a w K Q else E :=
  step_copy_eq hgd d s dT sT ho _ _ hd hs (run_copy_rowK w dT sT o.type elem k n g off dLen dCap ad sLen sCap cur t cs hu hsz hg hn hl hsrc hfit h1) (h _ (hg.row _) (grown_setRow (World.grownBy.refl w _) _))
/-- laid over a row from place (i + 1) on, then at place i -/
theorem shift_list {α : Type} {size : Nat} {f : α → List Value} (hf : ∀ x, (f x).length = size) {l : List α} {C : List Value} {i cap : Nat} (hi : i < l.length) (hC : C.take (l.length * size) = l.flatMap f) (hsz : C.length = cap * size) (hroom : l.length + 1 ≤ cap) (y : α) :
    ((((C.take ((i + 1) * size) ++ (l.drop i).flatMap f ++ C.drop ((i + 1) * size + ((l.drop i).flatMap f).length)).take (i * size)) ++ f y ++ (C.take ((i + 1) * size) ++ (l.drop i).flatMap f ++ C.drop ((i + 1) * size + ((l.drop i).flatMap f).length)).drop (i * size + (f y).length)).take ((l.length + 1) * size)) = (insAt l i y).flatMap f := by
  have e1 : (i + 1) * size = i * size + size := by rw [Nat.add_mul]; omega
  have e2 : (l.length + 1) * size = l.length * size + size := by rw [Nat.add_mul]; omega
  have hil : i * size ≤ l.length * size := Nat.mul_le_mul_right _ (by omega)
  have hil2 : (i + 1) * size ≤ l.length * size := Nat.mul_le_mul_right _ (by omega)
  have hcl : (l.length + 1) * size ≤ cap * size := Nat.mul_le_mul_right _ hroom
  have hd : ((l.drop i).flatMap f).length = l.length * size - i * size := by rw [flat_length hf, List.length_drop, Nat.sub_mul]
  have t1 : (C.take ((i + 1) * size)).length = (i + 1) * size := by rw [List.length_take]; omega
  have a1 : (C.take ((i + 1) * size) ++ (l.drop i).flatMap f ++ C.drop ((i + 1) * size + ((l.drop i).flatMap f).length)).take (i * size) = (l.take i).flatMap f := by
    rw [List.append_assoc, List.take_append_of_le_length (by omega), List.take_take, Nat.min_eq_left (by omega)]
    have : C.take (i * size) = (C.take (l.length * size)).take (i * size) := by rw [List.take_take, Nat.min_eq_left hil]
    rw [this, hC, flat_take hf]
  have a2 : (C.take ((i + 1) * size) ++ (l.drop i).flatMap f ++ C.drop ((i + 1) * size + ((l.drop i).flatMap f).length)).drop (i * size + (f y).length) = (l.drop i).flatMap f ++ C.drop ((i + 1) * size + ((l.drop i).flatMap f).length) := by
    rw [hf, ← e1, List.append_assoc, List.drop_append_of_le_length (by omega), List.drop_of_length_le (by omega), List.nil_append]
  rw [a1, a2]
  have hl1 : ((l.take i).flatMap f).length = i * size := by rw [flat_length hf, List.length_take, Nat.min_eq_left (by omega)]
  rw [← List.append_assoc, List.take_append_of_le_length (by simp only [List.length_append, hl1, hf, hd]; omega), List.take_of_length_le (by simp only [List.length_append, hl1, hf, hd]; omega)]
  unfold insAt
  rw [List.flatMap_append, List.flatMap_cons, List.append_assoc]
/-- laid over a new row at place i, then from (i + 1) on -/
theorem grow_list {α : Type} {size : Nat} {f : α → List Value} (hf : ∀ x, (f x).length = size) {l : List α} {Z : List Value} {i G : Nat} (hi : i < l.length) (hG : l.length + 1 ≤ G) (hZ : Z.length = (G - i) * size) (y : α) {R : List Value} (hR : R = (l.take i).flatMap f ++ Z) :
    (((R.take (i * size) ++ f y ++ R.drop (i * size + (f y).length)).take ((i + 1) * size) ++ (l.drop i).flatMap f ++ (R.take (i * size) ++ f y ++ R.drop (i * size + (f y).length)).drop ((i + 1) * size + ((l.drop i).flatMap f).length)).take ((l.length + 1) * size)) = (insAt l i y).flatMap f := by
  have e1 : (i + 1) * size = i * size + size := by rw [Nat.add_mul]; omega
  have e2 : (l.length + 1) * size = l.length * size + size := by rw [Nat.add_mul]; omega
  have hil : i * size ≤ l.length * size := Nat.mul_le_mul_right _ (by omega)
  have hd : ((l.drop i).flatMap f).length = l.length * size - i * size := by rw [flat_length hf, List.length_drop, Nat.sub_mul]
  have hl1 : ((l.take i).flatMap f).length = i * size := by rw [flat_length hf, List.length_take, Nat.min_eq_left (by omega)]
  have hR1 : R.take (i * size) = (l.take i).flatMap f := by rw [hR, List.take_append_of_le_length (by omega), List.take_of_length_le (by omega)]
  rw [hR1]
  have a1 : ((l.take i).flatMap f ++ f y ++ R.drop (i * size + (f y).length)).take ((i + 1) * size) = (l.take i).flatMap f ++ f y := by
    rw [List.take_append_of_le_length (by simp only [List.length_append, hl1, hf]; omega), List.take_of_length_le (by simp only [List.length_append, hl1, hf]; omega)]
  rw [a1, List.take_append_of_le_length (by simp only [List.length_append, hl1, hf, hd]; omega), List.take_of_length_le (by simp only [List.length_append, hl1, hf, hd]; omega)]
  unfold insAt
  rw [List.flatMap_append, List.flatMap_cons, List.append_assoc]
end Go.Proofs.Ytmafhaadcjgcbaa
end
section
namespace Go.Proofs.Ytmafhaadcjgcbaa
open Go Go.RowKit

theorem insProp_ar (l : List AProp) (n c : Nat) (hn : l.length = n) (hc : c ≤ maxLen) : c ≤ 9223372036854775807 := by unfold maxLen at hc; omega
set_option maxRecDepth 100000 in
set_option maxHeartbeats 4000000 in
theorem insProp_end (v : Value) (l : List AProp) (i : Nat) (y : AProp) (g : Nat) (w : World) (base : Nat) (hown : w.ownsRow base 85 2 v l.length (l.flatMap propCells)) (hg : Blk w g 85 (propCells y).toArray) (hne : v.ownBlock ≠ some g) (hlen : l.length ≤ 4398046511000) (hb : base ≤ w.heap.size) (hi : i = l.length) :
    Calls Try.prog 89 #[v, .int .i64 i, .slice (some ⟨g, 0, none⟩) 1 1] w fun e w' => ∃ v', e = .returned v' ∧ w'.ownsRow base 85 2 v' (l.length + 1) ((insAt l i y).flatMap propCells) ∧ w.grownBy w' v.ownBlock ∧ (v'.ownBlock = v.ownBlock ∨ ∃ b, v'.ownBlock = some b ∧ w.heap.size ≤ b) := by
  subst hi
  obtain ⟨n, hn⟩ : ∃ n, l.length = n := ⟨_, rfl⟩
  have hcells : ∀ ad, (some ⟨g, 0, none⟩ : Option Addr) = some ad → ∀ j u, (propCells y)[j]? = some u → w.cell? (ad.add j) = some u := fun ad e j u hu => by cases e; exact news_cells hg j u (by simpa using hu)
  have H := Lib.hid hown
  have HIN : Hid ((insAt l n y).flatMap propCells = l.flatMap propCells ++ propCells y) := Lib.hid (by rw [← hn, insAt_end, List.flatMap_append]; simp)
  rw [hn] at hlen
  clear hne
  rcases hown.2 with ⟨rfl, h0⟩ | ⟨b, cap, cur, rfl, hbb, hh, hnc, hcm, hsz, ht⟩
  · rw [hn] at h0
    subst h0
    rw [hn] at H ⊢
    clear hown hn
    go_enter Try.func89, Try.ntmps89
    go_wp2_with (at_builtin; refine wpList_append_from w rfl (.tmp 23) (.tmp 24) 34 rfl base 85 Try.underlying34 prop_info rfl (by omega) (.slice none 0 0) 0 (l.flatMap propCells) rfl H.out (some ⟨g, 0, none⟩) 1 1 (propCells y) rfl rfl (by simp) hcells (propCells_one y) (by unfold maxLen; omega) (by omega) hb ?_)
    all_goals
      intro A' c' w' own hgr hat
      have HO := Lib.hid own; have HG := Lib.hid hgr
      have HA : Hid ((Value.slice A' (0 + 1) c').ownBlock = (Value.slice none 0 0).ownBlock ∨ ∃ b, (Value.slice A' (0 + 1) c').ownBlock = some b ∧ w.heap.size ≤ b) := Lib.hid (hat.imp id fun e => ⟨_, e, Nat.le_refl _⟩)
      clear own hgr hat
      go_wp2
      go_ret
      exact ⟨_, rfl, by rw [HIN.out]; exact HO.out, HG.out, HA.out⟩
  · have hcm' := insProp_ar l n cap hn hcm
    rw [hn] at hnc H ⊢
    clear hown hh hsz ht hcm
    have hn0 : (0 : Int) ≤ n := by omega
    have hnn : n ≤ n := Nat.le_refl _
    by_cases hcn : cap = n
    all_goals
      go_enter Try.func89, Try.ntmps89
      go_wp2_with (at_builtin; refine wpList_append_from w rfl (.tmp 23) (.tmp 24) 34 rfl base 85 Try.underlying34 prop_info rfl (by omega) (.slice (some ⟨b, 0, none⟩) n cap) n (l.flatMap propCells) rfl H.out (some ⟨g, 0, none⟩) 1 1 (propCells y) rfl rfl (by simp) hcells (propCells_one y) (by unfold maxLen; omega) (by omega) hb ?_)
      all_goals
        intro A' c' w' own hgr hat
        have HO := Lib.hid own; have HG := Lib.hid hgr
        have HA : Hid ((Value.slice A' (n + 1) c').ownBlock = (Value.slice (some ⟨b, 0, none⟩) n cap).ownBlock ∨ ∃ q, (Value.slice A' (n + 1) c').ownBlock = some q ∧ w.heap.size ≤ q) := Lib.hid (hat.imp id fun e => ⟨_, e, Nat.le_refl _⟩)
        clear own hgr hat
        go_wp2
        go_ret
        exact ⟨_, rfl, by rw [HIN.out]; exact HO.out, HG.out, HA.out⟩

set_option maxRecDepth 100000 in
set_option maxHeartbeats 4000000 in
theorem insProp_shift (v : Value) (l : List AProp) (i : Nat) (y : AProp) (g : Nat) (w : World) (base : Nat) (hown : w.ownsRow base 85 2 v l.length (l.flatMap propCells)) (hg : Blk w g 85 (propCells y).toArray) (hne : v.ownBlock ≠ some g) (hlen : l.length ≤ 4398046511000) (hb : base ≤ w.heap.size) (hi : i < l.length) (b cap : Nat) (cur : Array Value) (hv : v = .slice (some ⟨b, 0, none⟩) l.length cap) (hh : Blk w b 85 cur) (hroom : l.length + 1 ≤ cap) (hcm : cap ≤ 9223372036854775807) (hsz : cur.size = cap * 2) (ht : cur.toList.take (l.length * 2) = l.flatMap propCells) (hbb : base ≤ b) :
    Calls Try.prog 89 #[v, .int .i64 i, .slice (some ⟨g, 0, none⟩) 1 1] w fun e w' => ∃ v', e = .returned v' ∧ w'.ownsRow base 85 2 v' (l.length + 1) ((insAt l i y).flatMap propCells) ∧ w.grownBy w' v.ownBlock ∧ (v'.ownBlock = v.ownBlock ∨ ∃ b, v'.ownBlock = some b ∧ w.heap.size ≤ b) := by
  obtain ⟨n, hn⟩ : ∃ n, l.length = n := ⟨_, rfl⟩
  have hgb : g ≠ b := fun e => hne (by rw [hv, e]; rfl)
  subst hv
  have HS := Lib.hid (shift_list (size := 2) (f := propCells) propCells_len (C := cur.toList) (cap := cap) hi ht (by simpa using hsz) hroom y)
  have hdl : ((l.drop i).flatMap propCells).length = (n - i) * 2 := by rw [flat_length propCells_len, List.length_drop, hn]
  have hil : (insAt l i y).length = n + 1 := by rw [insAt_len (by omega), hn]
  rw [hn] at hi hroom hlen ht HS ⊢
  have hin : i ≤ n := by omega
  have hz1 : ¬ ((i : Int) = (n : Int)) := by omega
  have hz2 : ¬ ((n : Int) + 1 > (cap : Int)) := by omega
  have hw1 : IntKind.i64.wrap ((n : Int) + 1) = (n : Int) + 1 := by rw [IntKind.wrap_i64]; omega
  have hw2 : IntKind.i64.wrap ((i : Int) + 1) = (i : Int) + 1 := by rw [IntKind.wrap_i64]; omega
  have hb1 : (0 : Int) ≤ (i : Int) + 1 := by omega
  have hb1' : (0 : Int) ≤ (n : Int) + 1 := by omega
  have htn : ((i : Int) + 1).toNat = i + 1 := by omega
  have htn' : ((n : Int) + 1).toNat = n + 1 := by omega
  have hb2 : ¬ (cap = i + 1) := by omega
  have hb3 : (i : Int) ≤ (n : Int) + 1 := by omega
  have hb4 : ¬ (cap = i) := by omega
  have hb5 : (n : Int) + 1 ≤ (cap : Int) := by omega
  have hb6 : (i : Int) + 1 ≤ (n : Int) + 1 := by omega
  have hb7 : (0 : Int) ≤ (i : Int) := by omega
  have hb8 : (i : Int) ≤ (n : Int) := by omega
  have hb9 : (0 : Int) ≤ (n : Int) := by omega
  have hsga : w.shape? g = some (85, 2) := by have := hg; unfold Blk at this; simp [World.shape?, this, propCells]
  have hsgb : w.shape? b = some (85, cap * 2) := by have := hh; unfold Blk at this; simp [World.shape?, this, hsz]
  have hov : ∀ lb cb, (callFunc 121 #[.slice (some ⟨g, 0, none⟩) 1 1, .slice (some ⟨b, (i + 1) * 2, none⟩) lb cb]).run Try.prog w = .ok (.value (.bool false)) w := fun lb cb => by
    rw [run_callFunc_extern Try.func121 (by kernel_rfl) (by kernel_rfl) (by kernel_rfl) (e := Extern.SlicesOverlaps.overlaps #[34, 34] #[4]) (by kernel_rfl),
      Lib.run_overlaps_apart w 34 4 85 Try.underlying34 2 (fun w => by obtain ⟨i0, hi0, _, hs0, _⟩ := info_parts prop_info; simp [sizeOf, typeInfo, hi0, hs0]) ⟨g, 0, none⟩ ⟨b, (i + 1) * 2, none⟩ 1 1 lb cb hgb 85 85 2 (cap * 2) hsga hsgb (by omega) (hg.frozen 0) (hg.frozen 2)]
    rfl
  have HG := Lib.hid hg; have HH := Lib.hid hh; have HSZ := Lib.hid hsz; have HT := Lib.hid ht; have HDL := Lib.hid hdl; have HIL := Lib.hid hil
  have hsc : cur.toList.length = cap * 2 := by simpa using hsz
  have hsrc : ∀ j u, ((l.drop i).flatMap propCells)[j]? = some u → w.cell? ((⟨b, i * 2, none⟩ : Addr).add j) = some u := fun j u hu => by
    rw [← flat_drop propCells_len, List.getElem?_drop, ← ht, List.getElem?_take] at hu
    rw [add_some, hh.cell]
    split at hu
    · simpa using hu
    · cases hu
  have HSRC := Lib.hid hsrc
  have hfit : (i + 1) * 2 + (n - i) * 2 ≤ cap * 2 := by rw [← Nat.add_mul]; exact Nat.mul_le_mul_right _ (by omega)
  have hfit2 : i * 2 + 2 ≤ cap * 2 := by have : (i + 1) * 2 ≤ cap * 2 := Nat.mul_le_mul_right _ (by omega); omega
  have HMIN : Hid (n - i = Nat.min (n + 1 - i) (n + 1 - (i + 1))) := Lib.hid (by simp only [Nat.min_def]; split <;> omega)
  clear hg hh hsz ht hdl hil hne hsga hsgb hsrc
  go_enter Try.func89, Try.ntmps89
  go_wp2_with (simp only [hov])
  go_region_law (refine step_copyK rfl (.tmp 73) (.tmp 76) 34 34 rfl 85 Try.underlying34 2 (by kernel_rfl) (n - i) b ((i + 1) * 2) (n + 1 - (i + 1)) (cap - (i + 1)) ⟨b, i * 2, none⟩ (n + 1 - i) (cap - i) (by simp [Act.eval, Act.put]) (by simp [Act.eval, Act.put]) cur 85 HH.out.drew ((l.drop i).flatMap propCells) HMIN.out HDL.out HSRC.out (by rw [HDL.out, HSZ.out]; omega) (flat_one propCells_one _) ?_; intro w1 HX1 HG1)
  have HGV := Lib.hid (HG.out.drew.grown HG1.out (fun e => hgb (by injection e)))
  have HX1S : Hid ((lay cur ((i + 1) * 2) ((l.drop i).flatMap propCells)).size = cap * 2) := Lib.hid (by rw [lay_size (by rw [HDL.out, HSZ.out]; omega), HSZ.out])
  have HMIN2 : Hid (1 = Nat.min 1 (n + 1 - i)) := Lib.hid (by simp only [Nat.min_def]; split <;> omega)
  go_wp2_with (refine wpList_copyK _ rfl (.tmp 80) (.tmp 81) 34 34 rfl 85 Try.underlying34 2 (by kernel_rfl) 1 b (i * 2) (n + 1 - i) (cap - i) ⟨g, 0, none⟩ 1 1 rfl rfl (lay cur ((i + 1) * 2) ((l.drop i).flatMap propCells)) 85 HX1.out (propCells y) HMIN2.out rfl (fun j u hu => news_cells HGV.out j u (by simpa using hu)) (by rw [HX1S.out]; show i * 2 + 2 ≤ cap * 2; omega) (propCells_one y) ?_)
  intro w2 HX2 HG2
  have HEND : Hid (w2.ownsRow base 85 2 (.slice (some ⟨b, 0, none⟩) (n + 1) cap) (n + 1) ((insAt l i y).flatMap propCells)) := Lib.hid ⟨by rw [flat_length propCells_len, HIL.out], .inr ⟨b, cap, _, rfl, hbb, HX2.out, hroom, by unfold maxLen; omega, by rw [lay_size (by rw [HX1S.out]; show i * 2 + 2 ≤ cap * 2; omega), HX1S.out], by
    have h := HS.out
    rw [lay_list, lay_list]
    (try simp only [Nat.mul_one] at h ⊢)
    exact h⟩⟩
  have HGR := Lib.hid (grown_trans (grown_trans (grown_drew w _) HG1.out) HG2.out)
  go_wp2
  go_ret
  exact ⟨_, rfl, HEND.out, HGR.out, .inl rfl⟩

set_option maxRecDepth 100000 in
set_option maxHeartbeats 4000000 in
theorem insProp_grow (v : Value) (l : List AProp) (i : Nat) (y : AProp) (g : Nat) (w : World) (base : Nat) (hown : w.ownsRow base 85 2 v l.length (l.flatMap propCells)) (hg : Blk w g 85 (propCells y).toArray) (hne : v.ownBlock ≠ some g) (hlen : l.length ≤ 4398046511000) (hb : base ≤ w.heap.size) (hi : i < l.length) (b cap : Nat) (cur : Array Value) (hv : v = .slice (some ⟨b, 0, none⟩) l.length cap) (hh : Blk w b 85 cur) (hnc : l.length ≤ cap) (hroom : cap < l.length + 1) (ht : cur.toList.take (l.length * 2) = l.flatMap propCells) :
    Calls Try.prog 89 #[v, .int .i64 i, .slice (some ⟨g, 0, none⟩) 1 1] w fun e w' => ∃ v', e = .returned v' ∧ w'.ownsRow base 85 2 v' (l.length + 1) ((insAt l i y).flatMap propCells) ∧ w.grownBy w' v.ownBlock ∧ (v'.ownBlock = v.ownBlock ∨ ∃ b, v'.ownBlock = some b ∧ w.heap.size ≤ b) := by
  obtain ⟨n, hn⟩ : ∃ n, l.length = n := ⟨_, rfl⟩
  subst hv
  obtain rfl : cap = l.length := by omega
  have hbw := hh.lt
  have hgw := hg.lt
  have hdl : ((l.drop i).flatMap propCells).length = (n - i) * 2 := by rw [flat_length propCells_len, List.length_drop, hn]
  have hil : (insAt l i y).length = n + 1 := by rw [insAt_len (by omega), hn]
  have HTK : Hid (((l.take i).flatMap propCells).length = i * 2) := Lib.hid (by rw [flat_length propCells_len, List.length_take, Nat.min_eq_left (by omega)])
  have HGL : Hid (∀ (Z : List Value) (G : Nat), l.length + 1 ≤ G → Z.length = (G - i) * 2 → _) := Lib.hid (fun Z G h1 h2 => grow_list (size := 2) (f := propCells) propCells_len (l := l) (Z := Z) (i := i) (G := G) hi h1 h2 y (R := (l.take i).flatMap propCells ++ Z) rfl)
  rw [hn] at hi hlen ht HGL hroom ⊢
  obtain ⟨i0, hi0, hz0, hzs, hzb⟩ := info_parts prop_info
  have hik : i + (n + 1 - i) = n + 1 := by omega
  have hkk : (n : Int) + 1 - (i : Int) = ((n + 1 - i : Nat) : Int) := by omega
  have hsrcb : ∀ j u, (l.flatMap propCells)[j]? = some u → w.cell? ⟨b, j, none⟩ = some u := fun j u hu => by
    rw [← ht, List.getElem?_take] at hu
    rw [hh.cell]
    split at hu
    · simpa using hu
    · cases hu
  have hold : (Builtin.firstCells i0.size i (.slice (some ⟨b, 0, none⟩) i n)).run Try.prog w.drew = .ok ((l.take i).flatMap propCells).toArray w.drew := by
    rw [hzs]
    refine run_firstCells_some w.drew 2 i ⟨b, 0, none⟩ i n _ HTK.out (fun j u hj => ?_)
    rw [add_some, Nat.zero_add]
    rw [← flat_take propCells_len, List.getElem?_take] at hj
    by_cases hji : j < i * 2
    · rw [if_pos hji] at hj; exact hsrcb j u hj
    · rw [if_neg hji] at hj; cases hj
  have hrz : ∀ ty, (Builtin.append_ #[34, 3] ty #[.slice (some ⟨b, 0, none⟩) i n, .int .i64 ((n : Int) + 1 - (i : Int))]).run Try.prog w = .ok (.slice (some ⟨w.heap.size, 0, none⟩) (n + 1) (grownCap w (n + 1) n 85)) (w.drew.alloc (.cells (((l.take i).flatMap propCells).toArray ++ Builtin.zeroCells (Value.agg #[.string { data := #[] }, .string { data := #[] }]).cells (n + 1 - i) ++ Builtin.zeroCells (Value.agg #[.string { data := #[] }, .string { data := #[] }]).cells (grownCap w (n + 1) n 85 - (n + 1))) 85)) := fun ty => by
    have h := Lib.run_append_grow_zeros w 34 3 ty 85 i0 _ .i64 .i64 Try.underlying34 Try.underlying3 hi0 hz0 (some ⟨b, 0, none⟩) i n _ hold (n + 1 - i) (by omega) (by omega) (by omega) (by omega) (by rw [hzb]; omega) (by rw [hzb, hik]; exact growslice_fits hroom (by omega))
    rw [hik] at h
    rw [hkk]
    exact h
  obtain ⟨G, hG⟩ : ∃ G, grownCap w (n + 1) n 85 = G := ⟨_, rfl⟩
  have hGn : n + 1 ≤ G := by rw [← hG]; exact grownCap_ge w _ _ _
  have hG63 : G ≤ 9223372036854775807 := by
    have := grownCap_le_maxLen w (n + 1) n 85 (by unfold maxLen; omega)
    rw [hG] at this
    unfold maxLen at this
    omega
  simp only [hG] at hrz
  obtain ⟨ROW, hROW⟩ : ∃ ROW : Array Value, ((l.take i).flatMap propCells).toArray ++ Builtin.zeroCells (Value.agg #[.string { data := #[] }, .string { data := #[] }]).cells (n + 1 - i) ++ Builtin.zeroCells (Value.agg #[.string { data := #[] }, .string { data := #[] }]).cells (G - (n + 1)) = ROW := ⟨_, rfl⟩
  simp only [hROW] at hrz
  have HRL : Hid (ROW.toList = (l.take i).flatMap propCells ++ (Builtin.zeroCells (Value.agg #[.string { data := #[] }, .string { data := #[] }]).cells (n + 1 - i) ++ Builtin.zeroCells (Value.agg #[.string { data := #[] }, .string { data := #[] }]).cells (G - (n + 1))).toList) := Lib.hid (by rw [← hROW]; simp)
  have HZL : Hid ((Builtin.zeroCells (Value.agg #[.string { data := #[] }, .string { data := #[] }]).cells (n + 1 - i) ++ Builtin.zeroCells (Value.agg #[.string { data := #[] }, .string { data := #[] }]).cells (G - (n + 1))).toList.length = (G - i) * 2) := Lib.hid (by simp [Builtin.zeroCells, Value.cells]; omega)
  have HRS : Hid (ROW.size = G * 2) := Lib.hid (by
    have h : ROW.toList.length = i * 2 + (G - i) * 2 := by rw [HRL.out, List.length_append, HTK.out, HZL.out]
    have h2 : ROW.toList.length = ROW.size := rfl
    omega)
  have HRZ := Lib.hid hrz
  have HG := Lib.hid hg; have HH := Lib.hid hh; have HDL := Lib.hid hdl; have HIL := Lib.hid hil; have HSB := Lib.hid hsrcb
  have HMIN : Hid (n - i = Nat.min (n - i) (n + 1 - (i + 1))) := Lib.hid (by simp only [Nat.min_def]; split <;> omega)
  have HMIN2 : Hid (1 = Nat.min 1 (n + 1 - i)) := Lib.hid (by simp only [Nat.min_def]; split <;> omega)
  clear hg hh hdl hil hne hsrcb hrz hROW hG hold hi0 hz0 hzs hzb hkk hik ht hroom
  have hin : i ≤ n := by omega
  have hz1 : ¬ ((i : Int) = (n : Int)) := by omega
  have hz2 : (n : Int) < (n : Int) + 1 := by omega
  have hw1 : IntKind.i64.wrap ((n : Int) + 1) = (n : Int) + 1 := by rw [IntKind.wrap_i64]; omega
  have hw2 : IntKind.i64.wrap ((i : Int) + 1) = (i : Int) + 1 := by rw [IntKind.wrap_i64]; omega
  have hw3 : IntKind.i64.wrap ((n : Int) + 1 - (i : Int)) = (n : Int) + 1 - (i : Int) := by rw [IntKind.wrap_i64]; omega
  have hb1 : (0 : Int) ≤ (i : Int) + 1 := by omega
  have htn : ((i : Int) + 1).toNat = i + 1 := by omega
  have hb2 : ¬ (G = i + 1) := by omega
  have hb3 : (i : Int) ≤ (n : Int) + 1 := by omega
  have hb4 : ¬ (n = i) := by omega
  have hb5 : ¬ (G = i) := by omega
  have hb6 : (i : Int) + 1 ≤ (n : Int) + 1 := by omega
  have hb7 : (0 : Int) ≤ (i : Int) := by omega
  have hb8 : (i : Int) ≤ (n : Int) := by omega
  go_enter Try.func89, Try.ntmps89
  go_wp2_with (at_builtin; refine wpList_append_new _ rfl _ _ 34 3 rfl _ _ rfl rfl 85 ROW (HRZ.out _) ?_)
  intro w1 HX1 HB1
  have HGV := Lib.hid (HG.out.below HB1.out hgw)
  go_wp2_with (refine wpList_copyK _ rfl (.tmp 43) (.tmp 44) 34 34 rfl 85 Try.underlying34 2 (by kernel_rfl) 1 w.heap.size (i * 2) (n + 1 - i) (G - i) ⟨g, 0, none⟩ 1 1 rfl rfl ROW 85 HX1.out (propCells y) HMIN2.out rfl (fun j u hu => news_cells HGV.out j u (by simpa using hu)) (by rw [HRS.out]; show i * 2 + 2 ≤ G * 2; omega) (propCells_one y) ?_)
  intro w2 HX2 HG2
  have HX2S : Hid ((lay ROW (i * 2) (propCells y)).size = G * 2) := Lib.hid (by rw [lay_size (by rw [HRS.out]; show i * 2 + 2 ≤ G * 2; omega), HRS.out])
  have HSRC : Hid (∀ j u, ((l.drop i).flatMap propCells)[j]? = some u → w2.cell? ((⟨b, i * 2, none⟩ : Addr).add j) = some u) := Lib.hid (fun j u hu => by
    rw [← flat_drop propCells_len, List.getElem?_drop] at hu
    rw [add_some]
    have h1 : w2.cell? ⟨b, i * 2 + j, none⟩ = w1.cell? ⟨b, i * 2 + j, none⟩ := World.cell?_of_block (HG2.out.block b (Nat.lt_of_lt_of_le hbw HB1.out.size) (fun e => by injection e with e; omega))
    rw [h1, HB1.out.cell (p := ⟨b, _, none⟩) hbw]
    exact HSB.out _ u (by simpa using hu))
  go_wp2
  go_region_law (refine step_copyK rfl (.tmp 50) (.tmp 53) 34 34 rfl 85 Try.underlying34 2 (by kernel_rfl) (n - i) w.heap.size ((i + 1) * 2) (n + 1 - (i + 1)) (G - (i + 1)) ⟨b, i * 2, none⟩ (n - i) (n - i) (by simp [Act.eval, Act.put]) (by simp [Act.eval, Act.put]) (lay ROW (i * 2) (propCells y)) 85 HX2.out.drew ((l.drop i).flatMap propCells) HMIN.out HDL.out HSRC.out (by rw [HDL.out, HX2S.out]; omega) (flat_one propCells_one _) ?_; intro w3 HX3 HG3)
  have HEND : Hid (w3.ownsRow base 85 2 (.slice (some ⟨w.heap.size, 0, none⟩) (n + 1) G) (n + 1) ((insAt l i y).flatMap propCells)) := Lib.hid ⟨by rw [flat_length propCells_len, HIL.out], .inr ⟨w.heap.size, G, _, rfl, hb, HX3.out, hGn, by unfold maxLen; omega, by rw [lay_size (by rw [HDL.out, HX2S.out]; omega), HX2S.out], by
    have h := HGL.out _ G hGn HZL.out
    rw [← HRL.out] at h
    rw [lay_list, lay_list]
    (try simp only [Nat.mul_one] at h ⊢)
    exact h⟩⟩
  have HGR : Hid (w.grownBy w3 (some b)) := Lib.hid (by
    have g2 := HG2.out; have g3 := HG3.out; have b1 := HB1.out
    exact ⟨g3.os.trans (g2.os.trans b1.os), g3.tape.trans (g2.tape.trans b1.tape), g3.output.trans (g2.output.trans b1.output), Nat.le_trans b1.size (Nat.le_trans g2.size g3.size), fun q hq _ =>
      (g3.block q (by have := g2.size; have := b1.size; show q < w2.heap.size; omega) (fun e => by injection e with e; omega)).trans ((g2.block q (by have := b1.size; omega) (fun e => by injection e with e; omega)).trans (b1.block q hq))⟩)
  go_wp2
  go_ret
  exact ⟨_, rfl, HEND.out, HGR.out, .inr ⟨_, rfl, Nat.le_refl _⟩⟩

theorem insProp_any (v : Value) (l : List AProp) (i : Nat) (y : AProp) (g : Nat) (w : World) (base : Nat) (hown : w.ownsRow base 85 2 v l.length (l.flatMap propCells)) (hg : Blk w g 85 (propCells y).toArray) (hne : v.ownBlock ≠ some g) (hlen : l.length ≤ 4398046511000) (hb : base ≤ w.heap.size) (hi : i ≤ l.length) :
    Calls Try.prog 89 #[v, .int .i64 i, .slice (some ⟨g, 0, none⟩) 1 1] w fun e w' => ∃ v', e = .returned v' ∧ w'.ownsRow base 85 2 v' (l.length + 1) ((insAt l i y).flatMap propCells) ∧ w.grownBy w' v.ownBlock ∧ (v'.ownBlock = v.ownBlock ∨ ∃ b, v'.ownBlock = some b ∧ w.heap.size ≤ b) := by
  by_cases he : i = l.length
  · exact insProp_end v l i y g w base hown hg hne hlen hb he
  · rcases hown.2 with ⟨rfl, h0⟩ | ⟨b, cap, cur, hv, hbb, hh, hnc, hcm, hsz, ht⟩
    · omega
    · by_cases hroom : l.length + 1 ≤ cap
      · exact insProp_shift v l i y g w base hown hg hne hlen hb (by omega) b cap cur hv hh hroom (by unfold maxLen at hcm; omega) hsz ht hbb
      · exact insProp_grow v l i y g w base hown hg hne hlen hb (by omega) b cap cur hv hh hnc (by omega) ht

theorem insRef_ar (l : List ARef) (n c : Nat) (hn : l.length = n) (hc : c ≤ maxLen) : c ≤ 9223372036854775807 := by unfold maxLen at hc; omega
set_option maxRecDepth 100000 in
set_option maxHeartbeats 4000000 in
theorem insRef_end (v : Value) (l : List ARef) (i : Nat) (y : ARef) (g : Nat) (w : World) (base : Nat) (hown : w.ownsRow base 82 2 v l.length (l.flatMap refCells)) (hg : Blk w g 82 (refCells y).toArray) (hne : v.ownBlock ≠ some g) (hlen : l.length ≤ 5864062014700) (hb : base ≤ w.heap.size) (hi : i = l.length) :
    Calls Try.prog 94 #[v, .int .i64 i, .slice (some ⟨g, 0, none⟩) 1 1] w fun e w' => ∃ v', e = .returned v' ∧ w'.ownsRow base 82 2 v' (l.length + 1) ((insAt l i y).flatMap refCells) ∧ w.grownBy w' v.ownBlock ∧ (v'.ownBlock = v.ownBlock ∨ ∃ b, v'.ownBlock = some b ∧ w.heap.size ≤ b) := by
  subst hi
  obtain ⟨n, hn⟩ : ∃ n, l.length = n := ⟨_, rfl⟩
  have hcells : ∀ ad, (some ⟨g, 0, none⟩ : Option Addr) = some ad → ∀ j u, (refCells y)[j]? = some u → w.cell? (ad.add j) = some u := fun ad e j u hu => by cases e; exact news_cells hg j u (by simpa using hu)
  have H := Lib.hid hown
  have HIN : Hid ((insAt l n y).flatMap refCells = l.flatMap refCells ++ refCells y) := Lib.hid (by rw [← hn, insAt_end, List.flatMap_append]; simp)
  rw [hn] at hlen
  clear hne
  rcases hown.2 with ⟨rfl, h0⟩ | ⟨b, cap, cur, rfl, hbb, hh, hnc, hcm, hsz, ht⟩
  · rw [hn] at h0
    subst h0
    rw [hn] at H ⊢
    clear hown hn
    go_enter Try.func94, Try.ntmps94
    go_wp2_with (at_builtin; refine wpList_append_from w rfl (.tmp 23) (.tmp 24) 36 rfl base 82 Try.underlying36 ref_info rfl (by omega) (.slice none 0 0) 0 (l.flatMap refCells) rfl H.out (some ⟨g, 0, none⟩) 1 1 (refCells y) rfl rfl (by simp) hcells (refCells_one y) (by unfold maxLen; omega) (by omega) hb ?_)
    all_goals
      intro A' c' w' own hgr hat
      have HO := Lib.hid own; have HG := Lib.hid hgr
      have HA : Hid ((Value.slice A' (0 + 1) c').ownBlock = (Value.slice none 0 0).ownBlock ∨ ∃ b, (Value.slice A' (0 + 1) c').ownBlock = some b ∧ w.heap.size ≤ b) := Lib.hid (hat.imp id fun e => ⟨_, e, Nat.le_refl _⟩)
      clear own hgr hat
      go_wp2
      go_ret
      exact ⟨_, rfl, by rw [HIN.out]; exact HO.out, HG.out, HA.out⟩
  · have hcm' := insRef_ar l n cap hn hcm
    rw [hn] at hnc H ⊢
    clear hown hh hsz ht hcm
    have hn0 : (0 : Int) ≤ n := by omega
    have hnn : n ≤ n := Nat.le_refl _
    by_cases hcn : cap = n
    all_goals
      go_enter Try.func94, Try.ntmps94
      go_wp2_with (at_builtin; refine wpList_append_from w rfl (.tmp 23) (.tmp 24) 36 rfl base 82 Try.underlying36 ref_info rfl (by omega) (.slice (some ⟨b, 0, none⟩) n cap) n (l.flatMap refCells) rfl H.out (some ⟨g, 0, none⟩) 1 1 (refCells y) rfl rfl (by simp) hcells (refCells_one y) (by unfold maxLen; omega) (by omega) hb ?_)
      all_goals
        intro A' c' w' own hgr hat
        have HO := Lib.hid own; have HG := Lib.hid hgr
        have HA : Hid ((Value.slice A' (n + 1) c').ownBlock = (Value.slice (some ⟨b, 0, none⟩) n cap).ownBlock ∨ ∃ q, (Value.slice A' (n + 1) c').ownBlock = some q ∧ w.heap.size ≤ q) := Lib.hid (hat.imp id fun e => ⟨_, e, Nat.le_refl _⟩)
        clear own hgr hat
        go_wp2
        go_ret
        exact ⟨_, rfl, by rw [HIN.out]; exact HO.out, HG.out, HA.out⟩

set_option maxRecDepth 100000 in
set_option maxHeartbeats 4000000 in
theorem insRef_shift (v : Value) (l : List ARef) (i : Nat) (y : ARef) (g : Nat) (w : World) (base : Nat) (hown : w.ownsRow base 82 2 v l.length (l.flatMap refCells)) (hg : Blk w g 82 (refCells y).toArray) (hne : v.ownBlock ≠ some g) (hlen : l.length ≤ 5864062014700) (hb : base ≤ w.heap.size) (hi : i < l.length) (b cap : Nat) (cur : Array Value) (hv : v = .slice (some ⟨b, 0, none⟩) l.length cap) (hh : Blk w b 82 cur) (hroom : l.length + 1 ≤ cap) (hcm : cap ≤ 9223372036854775807) (hsz : cur.size = cap * 2) (ht : cur.toList.take (l.length * 2) = l.flatMap refCells) (hbb : base ≤ b) :
    Calls Try.prog 94 #[v, .int .i64 i, .slice (some ⟨g, 0, none⟩) 1 1] w fun e w' => ∃ v', e = .returned v' ∧ w'.ownsRow base 82 2 v' (l.length + 1) ((insAt l i y).flatMap refCells) ∧ w.grownBy w' v.ownBlock ∧ (v'.ownBlock = v.ownBlock ∨ ∃ b, v'.ownBlock = some b ∧ w.heap.size ≤ b) := by
  obtain ⟨n, hn⟩ : ∃ n, l.length = n := ⟨_, rfl⟩
  have hgb : g ≠ b := fun e => hne (by rw [hv, e]; rfl)
  subst hv
  have HS := Lib.hid (shift_list (size := 2) (f := refCells) refCells_len (C := cur.toList) (cap := cap) hi ht (by simpa using hsz) hroom y)
  have hdl : ((l.drop i).flatMap refCells).length = (n - i) * 2 := by rw [flat_length refCells_len, List.length_drop, hn]
  have hil : (insAt l i y).length = n + 1 := by rw [insAt_len (by omega), hn]
  rw [hn] at hi hroom hlen ht HS ⊢
  have hin : i ≤ n := by omega
  have hz1 : ¬ ((i : Int) = (n : Int)) := by omega
  have hz2 : ¬ ((n : Int) + 1 > (cap : Int)) := by omega
  have hw1 : IntKind.i64.wrap ((n : Int) + 1) = (n : Int) + 1 := by rw [IntKind.wrap_i64]; omega
  have hw2 : IntKind.i64.wrap ((i : Int) + 1) = (i : Int) + 1 := by rw [IntKind.wrap_i64]; omega
  have hb1 : (0 : Int) ≤ (i : Int) + 1 := by omega
  have hb1' : (0 : Int) ≤ (n : Int) + 1 := by omega
  have htn : ((i : Int) + 1).toNat = i + 1 := by omega
  have htn' : ((n : Int) + 1).toNat = n + 1 := by omega
  have hb2 : ¬ (cap = i + 1) := by omega
  have hb3 : (i : Int) ≤ (n : Int) + 1 := by omega
  have hb4 : ¬ (cap = i) := by omega
  have hb5 : (n : Int) + 1 ≤ (cap : Int) := by omega
  have hb6 : (i : Int) + 1 ≤ (n : Int) + 1 := by omega
  have hb7 : (0 : Int) ≤ (i : Int) := by omega
  have hb8 : (i : Int) ≤ (n : Int) := by omega
  have hb9 : (0 : Int) ≤ (n : Int) := by omega
  have hsga : w.shape? g = some (82, 2) := by have := hg; unfold Blk at this; simp [World.shape?, this, refCells]
  have hsgb : w.shape? b = some (82, cap * 2) := by have := hh; unfold Blk at this; simp [World.shape?, this, hsz]
  have hov : ∀ lb cb, (callFunc 124 #[.slice (some ⟨g, 0, none⟩) 1 1, .slice (some ⟨b, (i + 1) * 2, none⟩) lb cb]).run Try.prog w = .ok (.value (.bool false)) w := fun lb cb => by
    rw [run_callFunc_extern Try.func124 (by kernel_rfl) (by kernel_rfl) (by kernel_rfl) (e := Extern.SlicesOverlaps.overlaps #[36, 36] #[4]) (by kernel_rfl),
      Lib.run_overlaps_apart w 36 4 82 Try.underlying36 2 (fun w => by obtain ⟨i0, hi0, _, hs0, _⟩ := info_parts ref_info; simp [sizeOf, typeInfo, hi0, hs0]) ⟨g, 0, none⟩ ⟨b, (i + 1) * 2, none⟩ 1 1 lb cb hgb 82 82 2 (cap * 2) hsga hsgb (by omega) (hg.frozen 0) (hg.frozen 2)]
    rfl
  have HG := Lib.hid hg; have HH := Lib.hid hh; have HSZ := Lib.hid hsz; have HT := Lib.hid ht; have HDL := Lib.hid hdl; have HIL := Lib.hid hil
  have hsc : cur.toList.length = cap * 2 := by simpa using hsz
  have hsrc : ∀ j u, ((l.drop i).flatMap refCells)[j]? = some u → w.cell? ((⟨b, i * 2, none⟩ : Addr).add j) = some u := fun j u hu => by
    rw [← flat_drop refCells_len, List.getElem?_drop, ← ht, List.getElem?_take] at hu
    rw [add_some, hh.cell]
    split at hu
    · simpa using hu
    · cases hu
  have HSRC := Lib.hid hsrc
  have hfit : (i + 1) * 2 + (n - i) * 2 ≤ cap * 2 := by rw [← Nat.add_mul]; exact Nat.mul_le_mul_right _ (by omega)
  have hfit2 : i * 2 + 2 ≤ cap * 2 := by have : (i + 1) * 2 ≤ cap * 2 := Nat.mul_le_mul_right _ (by omega); omega
  have HMIN : Hid (n - i = Nat.min (n + 1 - i) (n + 1 - (i + 1))) := Lib.hid (by simp only [Nat.min_def]; split <;> omega)
  clear hg hh hsz ht hdl hil hne hsga hsgb hsrc
  go_enter Try.func94, Try.ntmps94
  go_wp2_with (simp only [hov])
  go_region_law (refine step_copyK rfl (.tmp 73) (.tmp 76) 36 36 rfl 82 Try.underlying36 2 (by kernel_rfl) (n - i) b ((i + 1) * 2) (n + 1 - (i + 1)) (cap - (i + 1)) ⟨b, i * 2, none⟩ (n + 1 - i) (cap - i) (by simp [Act.eval, Act.put]) (by simp [Act.eval, Act.put]) cur 82 HH.out.drew ((l.drop i).flatMap refCells) HMIN.out HDL.out HSRC.out (by rw [HDL.out, HSZ.out]; omega) (flat_one refCells_one _) ?_; intro w1 HX1 HG1)
  have HGV := Lib.hid (HG.out.drew.grown HG1.out (fun e => hgb (by injection e)))
  have HX1S : Hid ((lay cur ((i + 1) * 2) ((l.drop i).flatMap refCells)).size = cap * 2) := Lib.hid (by rw [lay_size (by rw [HDL.out, HSZ.out]; omega), HSZ.out])
  have HMIN2 : Hid (1 = Nat.min 1 (n + 1 - i)) := Lib.hid (by simp only [Nat.min_def]; split <;> omega)
  go_wp2_with (refine wpList_copyK _ rfl (.tmp 80) (.tmp 81) 36 36 rfl 82 Try.underlying36 2 (by kernel_rfl) 1 b (i * 2) (n + 1 - i) (cap - i) ⟨g, 0, none⟩ 1 1 rfl rfl (lay cur ((i + 1) * 2) ((l.drop i).flatMap refCells)) 82 HX1.out (refCells y) HMIN2.out rfl (fun j u hu => news_cells HGV.out j u (by simpa using hu)) (by rw [HX1S.out]; show i * 2 + 2 ≤ cap * 2; omega) (refCells_one y) ?_)
  intro w2 HX2 HG2
  have HEND : Hid (w2.ownsRow base 82 2 (.slice (some ⟨b, 0, none⟩) (n + 1) cap) (n + 1) ((insAt l i y).flatMap refCells)) := Lib.hid ⟨by rw [flat_length refCells_len, HIL.out], .inr ⟨b, cap, _, rfl, hbb, HX2.out, hroom, by unfold maxLen; omega, by rw [lay_size (by rw [HX1S.out]; show i * 2 + 2 ≤ cap * 2; omega), HX1S.out], by
    have h := HS.out
    rw [lay_list, lay_list]
    (try simp only [Nat.mul_one] at h ⊢)
    exact h⟩⟩
  have HGR := Lib.hid (grown_trans (grown_trans (grown_drew w _) HG1.out) HG2.out)
  go_wp2
  go_ret
  exact ⟨_, rfl, HEND.out, HGR.out, .inl rfl⟩

set_option maxRecDepth 100000 in
set_option maxHeartbeats 4000000 in
theorem insRef_grow (v : Value) (l : List ARef) (i : Nat) (y : ARef) (g : Nat) (w : World) (base : Nat) (hown : w.ownsRow base 82 2 v l.length (l.flatMap refCells)) (hg : Blk w g 82 (refCells y).toArray) (hne : v.ownBlock ≠ some g) (hlen : l.length ≤ 5864062014700) (hb : base ≤ w.heap.size) (hi : i < l.length) (b cap : Nat) (cur : Array Value) (hv : v = .slice (some ⟨b, 0, none⟩) l.length cap) (hh : Blk w b 82 cur) (hnc : l.length ≤ cap) (hroom : cap < l.length + 1) (ht : cur.toList.take (l.length * 2) = l.flatMap refCells) :
    Calls Try.prog 94 #[v, .int .i64 i, .slice (some ⟨g, 0, none⟩) 1 1] w fun e w' => ∃ v', e = .returned v' ∧ w'.ownsRow base 82 2 v' (l.length + 1) ((insAt l i y).flatMap refCells) ∧ w.grownBy w' v.ownBlock ∧ (v'.ownBlock = v.ownBlock ∨ ∃ b, v'.ownBlock = some b ∧ w.heap.size ≤ b) := by
  obtain ⟨n, hn⟩ : ∃ n, l.length = n := ⟨_, rfl⟩
  subst hv
  obtain rfl : cap = l.length := by omega
  have hbw := hh.lt
  have hgw := hg.lt
  have hdl : ((l.drop i).flatMap refCells).length = (n - i) * 2 := by rw [flat_length refCells_len, List.length_drop, hn]
  have hil : (insAt l i y).length = n + 1 := by rw [insAt_len (by omega), hn]
  have HTK : Hid (((l.take i).flatMap refCells).length = i * 2) := Lib.hid (by rw [flat_length refCells_len, List.length_take, Nat.min_eq_left (by omega)])
  have HGL : Hid (∀ (Z : List Value) (G : Nat), l.length + 1 ≤ G → Z.length = (G - i) * 2 → _) := Lib.hid (fun Z G h1 h2 => grow_list (size := 2) (f := refCells) refCells_len (l := l) (Z := Z) (i := i) (G := G) hi h1 h2 y (R := (l.take i).flatMap refCells ++ Z) rfl)
  rw [hn] at hi hlen ht HGL hroom ⊢
  obtain ⟨i0, hi0, hz0, hzs, hzb⟩ := info_parts ref_info
  have hik : i + (n + 1 - i) = n + 1 := by omega
  have hkk : (n : Int) + 1 - (i : Int) = ((n + 1 - i : Nat) : Int) := by omega
  have hsrcb : ∀ j u, (l.flatMap refCells)[j]? = some u → w.cell? ⟨b, j, none⟩ = some u := fun j u hu => by
    rw [← ht, List.getElem?_take] at hu
    rw [hh.cell]
    split at hu
    · simpa using hu
    · cases hu
  have hold : (Builtin.firstCells i0.size i (.slice (some ⟨b, 0, none⟩) i n)).run Try.prog w.drew = .ok ((l.take i).flatMap refCells).toArray w.drew := by
    rw [hzs]
    refine run_firstCells_some w.drew 2 i ⟨b, 0, none⟩ i n _ HTK.out (fun j u hj => ?_)
    rw [add_some, Nat.zero_add]
    rw [← flat_take refCells_len, List.getElem?_take] at hj
    by_cases hji : j < i * 2
    · rw [if_pos hji] at hj; exact hsrcb j u hj
    · rw [if_neg hji] at hj; cases hj
  have hrz : ∀ ty, (Builtin.append_ #[36, 3] ty #[.slice (some ⟨b, 0, none⟩) i n, .int .i64 ((n : Int) + 1 - (i : Int))]).run Try.prog w = .ok (.slice (some ⟨w.heap.size, 0, none⟩) (n + 1) (grownCap w (n + 1) n 82)) (w.drew.alloc (.cells (((l.take i).flatMap refCells).toArray ++ Builtin.zeroCells (Value.agg #[.string { data := #[] }, .int .i64 0]).cells (n + 1 - i) ++ Builtin.zeroCells (Value.agg #[.string { data := #[] }, .int .i64 0]).cells (grownCap w (n + 1) n 82 - (n + 1))) 82)) := fun ty => by
    have h := Lib.run_append_grow_zeros w 36 3 ty 82 i0 _ .i64 .i64 Try.underlying36 Try.underlying3 hi0 hz0 (some ⟨b, 0, none⟩) i n _ hold (n + 1 - i) (by omega) (by omega) (by omega) (by omega) (by rw [hzb]; omega) (by rw [hzb, hik]; exact growslice_fits hroom (by omega))
    rw [hik] at h
    rw [hkk]
    exact h
  obtain ⟨G, hG⟩ : ∃ G, grownCap w (n + 1) n 82 = G := ⟨_, rfl⟩
  have hGn : n + 1 ≤ G := by rw [← hG]; exact grownCap_ge w _ _ _
  have hG63 : G ≤ 9223372036854775807 := by
    have := grownCap_le_maxLen w (n + 1) n 82 (by unfold maxLen; omega)
    rw [hG] at this
    unfold maxLen at this
    omega
  simp only [hG] at hrz
  obtain ⟨ROW, hROW⟩ : ∃ ROW : Array Value, ((l.take i).flatMap refCells).toArray ++ Builtin.zeroCells (Value.agg #[.string { data := #[] }, .int .i64 0]).cells (n + 1 - i) ++ Builtin.zeroCells (Value.agg #[.string { data := #[] }, .int .i64 0]).cells (G - (n + 1)) = ROW := ⟨_, rfl⟩
  simp only [hROW] at hrz
  have HRL : Hid (ROW.toList = (l.take i).flatMap refCells ++ (Builtin.zeroCells (Value.agg #[.string { data := #[] }, .int .i64 0]).cells (n + 1 - i) ++ Builtin.zeroCells (Value.agg #[.string { data := #[] }, .int .i64 0]).cells (G - (n + 1))).toList) := Lib.hid (by rw [← hROW]; simp)
  have HZL : Hid ((Builtin.zeroCells (Value.agg #[.string { data := #[] }, .int .i64 0]).cells (n + 1 - i) ++ Builtin.zeroCells (Value.agg #[.string { data := #[] }, .int .i64 0]).cells (G - (n + 1))).toList.length = (G - i) * 2) := Lib.hid (by simp [Builtin.zeroCells, Value.cells]; omega)
  have HRS : Hid (ROW.size = G * 2) := Lib.hid (by
    have h : ROW.toList.length = i * 2 + (G - i) * 2 := by rw [HRL.out, List.length_append, HTK.out, HZL.out]
    have h2 : ROW.toList.length = ROW.size := rfl
    omega)
  have HRZ := Lib.hid hrz
  have HG := Lib.hid hg; have HH := Lib.hid hh; have HDL := Lib.hid hdl; have HIL := Lib.hid hil; have HSB := Lib.hid hsrcb
  have HMIN : Hid (n - i = Nat.min (n - i) (n + 1 - (i + 1))) := Lib.hid (by simp only [Nat.min_def]; split <;> omega)
  have HMIN2 : Hid (1 = Nat.min 1 (n + 1 - i)) := Lib.hid (by simp only [Nat.min_def]; split <;> omega)
  clear hg hh hdl hil hne hsrcb hrz hROW hG hold hi0 hz0 hzs hzb hkk hik ht hroom
  have hin : i ≤ n := by omega
  have hz1 : ¬ ((i : Int) = (n : Int)) := by omega
  have hz2 : (n : Int) < (n : Int) + 1 := by omega
  have hw1 : IntKind.i64.wrap ((n : Int) + 1) = (n : Int) + 1 := by rw [IntKind.wrap_i64]; omega
  have hw2 : IntKind.i64.wrap ((i : Int) + 1) = (i : Int) + 1 := by rw [IntKind.wrap_i64]; omega
  have hw3 : IntKind.i64.wrap ((n : Int) + 1 - (i : Int)) = (n : Int) + 1 - (i : Int) := by rw [IntKind.wrap_i64]; omega
  have hb1 : (0 : Int) ≤ (i : Int) + 1 := by omega
  have htn : ((i : Int) + 1).toNat = i + 1 := by omega
  have hb2 : ¬ (G = i + 1) := by omega
  have hb3 : (i : Int) ≤ (n : Int) + 1 := by omega
  have hb4 : ¬ (n = i) := by omega
  have hb5 : ¬ (G = i) := by omega
  have hb6 : (i : Int) + 1 ≤ (n : Int) + 1 := by omega
  have hb7 : (0 : Int) ≤ (i : Int) := by omega
  have hb8 : (i : Int) ≤ (n : Int) := by omega
  go_enter Try.func94, Try.ntmps94
  go_wp2_with (at_builtin; refine wpList_append_new _ rfl _ _ 36 3 rfl _ _ rfl rfl 82 ROW (HRZ.out _) ?_)
  intro w1 HX1 HB1
  have HGV := Lib.hid (HG.out.below HB1.out hgw)
  go_wp2_with (refine wpList_copyK _ rfl (.tmp 43) (.tmp 44) 36 36 rfl 82 Try.underlying36 2 (by kernel_rfl) 1 w.heap.size (i * 2) (n + 1 - i) (G - i) ⟨g, 0, none⟩ 1 1 rfl rfl ROW 82 HX1.out (refCells y) HMIN2.out rfl (fun j u hu => news_cells HGV.out j u (by simpa using hu)) (by rw [HRS.out]; show i * 2 + 2 ≤ G * 2; omega) (refCells_one y) ?_)
  intro w2 HX2 HG2
  have HX2S : Hid ((lay ROW (i * 2) (refCells y)).size = G * 2) := Lib.hid (by rw [lay_size (by rw [HRS.out]; show i * 2 + 2 ≤ G * 2; omega), HRS.out])
  have HSRC : Hid (∀ j u, ((l.drop i).flatMap refCells)[j]? = some u → w2.cell? ((⟨b, i * 2, none⟩ : Addr).add j) = some u) := Lib.hid (fun j u hu => by
    rw [← flat_drop refCells_len, List.getElem?_drop] at hu
    rw [add_some]
    have h1 : w2.cell? ⟨b, i * 2 + j, none⟩ = w1.cell? ⟨b, i * 2 + j, none⟩ := World.cell?_of_block (HG2.out.block b (Nat.lt_of_lt_of_le hbw HB1.out.size) (fun e => by injection e with e; omega))
    rw [h1, HB1.out.cell (p := ⟨b, _, none⟩) hbw]
    exact HSB.out _ u (by simpa using hu))
  go_wp2
  go_region_law (refine step_copyK rfl (.tmp 50) (.tmp 53) 36 36 rfl 82 Try.underlying36 2 (by kernel_rfl) (n - i) w.heap.size ((i + 1) * 2) (n + 1 - (i + 1)) (G - (i + 1)) ⟨b, i * 2, none⟩ (n - i) (n - i) (by simp [Act.eval, Act.put]) (by simp [Act.eval, Act.put]) (lay ROW (i * 2) (refCells y)) 82 HX2.out.drew ((l.drop i).flatMap refCells) HMIN.out HDL.out HSRC.out (by rw [HDL.out, HX2S.out]; omega) (flat_one refCells_one _) ?_; intro w3 HX3 HG3)
  have HEND : Hid (w3.ownsRow base 82 2 (.slice (some ⟨w.heap.size, 0, none⟩) (n + 1) G) (n + 1) ((insAt l i y).flatMap refCells)) := Lib.hid ⟨by rw [flat_length refCells_len, HIL.out], .inr ⟨w.heap.size, G, _, rfl, hb, HX3.out, hGn, by unfold maxLen; omega, by rw [lay_size (by rw [HDL.out, HX2S.out]; omega), HX2S.out], by
    have h := HGL.out _ G hGn HZL.out
    rw [← HRL.out] at h
    rw [lay_list, lay_list]
    (try simp only [Nat.mul_one] at h ⊢)
    exact h⟩⟩
  have HGR : Hid (w.grownBy w3 (some b)) := Lib.hid (by
    have g2 := HG2.out; have g3 := HG3.out; have b1 := HB1.out
    exact ⟨g3.os.trans (g2.os.trans b1.os), g3.tape.trans (g2.tape.trans b1.tape), g3.output.trans (g2.output.trans b1.output), Nat.le_trans b1.size (Nat.le_trans g2.size g3.size), fun q hq _ =>
      (g3.block q (by have := g2.size; have := b1.size; show q < w2.heap.size; omega) (fun e => by injection e with e; omega)).trans ((g2.block q (by have := b1.size; omega) (fun e => by injection e with e; omega)).trans (b1.block q hq))⟩)
  go_wp2
  go_ret
  exact ⟨_, rfl, HEND.out, HGR.out, .inr ⟨_, rfl, Nat.le_refl _⟩⟩

theorem insRef_any (v : Value) (l : List ARef) (i : Nat) (y : ARef) (g : Nat) (w : World) (base : Nat) (hown : w.ownsRow base 82 2 v l.length (l.flatMap refCells)) (hg : Blk w g 82 (refCells y).toArray) (hne : v.ownBlock ≠ some g) (hlen : l.length ≤ 5864062014700) (hb : base ≤ w.heap.size) (hi : i ≤ l.length) :
    Calls Try.prog 94 #[v, .int .i64 i, .slice (some ⟨g, 0, none⟩) 1 1] w fun e w' => ∃ v', e = .returned v' ∧ w'.ownsRow base 82 2 v' (l.length + 1) ((insAt l i y).flatMap refCells) ∧ w.grownBy w' v.ownBlock ∧ (v'.ownBlock = v.ownBlock ∨ ∃ b, v'.ownBlock = some b ∧ w.heap.size ≤ b) := by
  by_cases he : i = l.length
  · exact insRef_end v l i y g w base hown hg hne hlen hb he
  · rcases hown.2 with ⟨rfl, h0⟩ | ⟨b, cap, cur, hv, hbb, hh, hnc, hcm, hsz, ht⟩
    · omega
    · by_cases hroom : l.length + 1 ≤ cap
      · exact insRef_shift v l i y g w base hown hg hne hlen hb (by omega) b cap cur hv hh hroom (by unfold maxLen at hcm; omega) hsz ht hbb
      · exact insRef_grow v l i y g w base hown hg hne hlen hb (by omega) b cap cur hv hh hnc (by omega) ht
end Go.Proofs.Ytmafhaadcjgcbaa
end
