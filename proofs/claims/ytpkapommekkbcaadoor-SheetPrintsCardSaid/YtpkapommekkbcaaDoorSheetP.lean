/- a model's text, line by line, in plain Lean -/
import Derived.Test.YtpkapommekkbcaaDoorATellsA
import Derived.Test.YtpkapommekkbcaaDoorDigs
set_option linter.unusedSimpArgs false
set_option linter.unusedVariables false
namespace Go.Proofs.YtpkapommekkbcaaDoor
open Go Go.RowKit

def hexB (d : Nat) : UInt8 := if d < 10 then UInt8.ofNat (48 + d) else UInt8.ofNat (87 + d)
/-- a byte's form -/
def formB (c : UInt8) : List UInt8 :=
  if c = 10 then [92, 110] else if 32 ≤ c.toNat ∧ c.toNat ≤ 126 then (if c = 34 ∨ c = 92 then [92, c] else [c]) else [92, 120, hexB (c.toNat / 16), hexB (c.toNat % 16)]
def quoteL (s : List UInt8) : List UInt8 := 34 :: (s.flatMap formB ++ [34])
theorem form_len (c : UInt8) : 1 ≤ (formB c).length ∧ (formB c).length ≤ 4 := by
  unfold formB
  repeat' split
  all_goals simp
theorem forms_len (s : List UInt8) : (s.flatMap formB).length ≤ 4 * s.length := by
  induction s with
  | nil => simp
  | cons c r ih => rw [List.flatMap_cons, List.length_append, List.length_cons]; have := (form_len c).2; omega
theorem quote_len (s : List UInt8) : (quoteL s).length ≤ 4 * s.length + 2 := by
  unfold quoteL
  rw [List.length_cons, List.length_append]
  have := forms_len s
  simp only [List.length_cons, List.length_nil]
  omega
def blanksL (n : Nat) : List UInt8 := List.replicate n 32
/-- the role ahead of the concept -/
def roleL (z : ANode) (d : Nat) : List UInt8 := z.role.data.toList ++ (if 1 < d then [32] else [])
def lineN (z : ANode) (d : Nat) : List UInt8 := blanksL (d - 1) ++ (digs z.id.toNat ++ ([32] ++ (roleL z d ++ z.concept.data.toList)))
def lineP (d : Nat) (p : AProp) : List UInt8 := blanksL d ++ ([46] ++ (p.name.data.toList ++ ([61] ++ quoteL p.value.data.toList)))
def lineR (d : Nat) (r : ARef) : List UInt8 := blanksL d ++ ([62] ++ (r.role.data.toList ++ ([61] ++ digs r.target.toNat)))
/-- a node's lines -/
def nodeLs (z : ANode) (d : Nat) : List (List UInt8) := lineN z d :: (z.props.map (lineP d) ++ z.refs.map (lineR d))
noncomputable def nodeAt (m : AModel) (k : Int) : List (List UInt8) := nodeLs (nodeOf m k) (depR m k).toNat
/-- the lines of a node and of what is below it -/
noncomputable def downLs (m : AModel) (k : Int) : List (List UInt8) := (k :: belowL m k).flatMap (nodeAt m)
def headLn (m : AModel) : List UInt8 := [110, 101, 120, 116, 32] ++ digs m.next.toNat
noncomputable def docLs (m : AModel) : List (List UInt8) := headLn m :: (orderL m).flatMap (nodeAt m)
def joinL (ls : List (List UInt8)) : List UInt8 := ls.flatMap (· ++ [10])
theorem joinL_app (a b : List (List UInt8)) : joinL (a ++ b) = joinL a ++ joinL b := List.flatMap_append
theorem joinL_one (a : List UInt8) : joinL [a] = a ++ [10] := by simp [joinL]
theorem joinL_cons (a : List UInt8) (b : List (List UInt8)) : joinL (a :: b) = a ++ [10] ++ joinL b := rfl
/-- a line more, unless there is too much already -/
def emit (B l : List UInt8) : List UInt8 := if 1048576 < B.length then B else B ++ (l ++ [10])
def emits (B : List UInt8) (ls : List (List UInt8)) : List UInt8 := ls.foldl emit B
theorem emits_app (B : List UInt8) (a b : List (List UInt8)) : emits B (a ++ b) = emits (emits B a) b := List.foldl_append
theorem emits_long (ls : List (List UInt8)) {B : List UInt8} (h : 1048576 < B.length) : emits B ls = B := by
  induction ls with
  | nil => rfl
  | cons a r ih => show emits (emit B a) r = B; unfold emit; rw [if_pos h, ih]
theorem emits_fit (ls : List (List UInt8)) {B : List UInt8} (h : (B ++ joinL ls).length ≤ 1048576) : emits B ls = B ++ joinL ls := by
  induction ls generalizing B with
  | nil => show B = B ++ []; simp
  | cons a r ih =>
    have h1 : B.length ≤ 1048576 := by rw [List.length_append] at h; omega
    show emits (emit B a) r = _
    unfold emit
    rw [if_neg (by omega), ih (by rw [joinL_cons] at h; simpa using h), joinL_cons]
    simp
theorem emits_over (ls : List (List UInt8)) {B : List UInt8} (h : 1048576 < (B ++ joinL ls).length) : 1048576 < (emits B ls).length := by
  induction ls generalizing B with
  | nil => show 1048576 < B.length; simpa [joinL] using h
  | cons a r ih =>
    show 1048576 < (emits (emit B a) r).length
    by_cases hb : 1048576 < B.length
    · have : emit B a = B := by unfold emit; rw [if_pos hb]
      rw [this, emits_long r hb]; exact hb
    · have : emit B a = B ++ (a ++ [10]) := by unfold emit; rw [if_neg hb]
      rw [this]
      exact ih (by rw [joinL_cons] at h; simpa using h)
theorem emits_size (ls : List (List UInt8)) {K : Nat} (hk : ∀ l ∈ ls, l.length ≤ K) {B : List UInt8} (h : B.length ≤ 1048577 + K) : (emits B ls).length ≤ 1048577 + K := by
  induction ls generalizing B with
  | nil => exact h
  | cons a r ih =>
    show (emits (emit B a) r).length ≤ _
    have ha := hk a (List.mem_cons_self ..)
    refine ih (fun l hl => hk l (List.mem_cons_of_mem _ hl)) ?_
    unfold emit
    split
    · exact h
    · simp only [List.length_append, List.length_cons, List.length_nil]; omega
section
variable {m : AModel}
theorem nodeAt_eq (h : CheckM m) {x : ANode} (hx : x ∈ m.nodes) {d : Nat} (hd : Dep m d x.id) : nodeAt m x.id = nodeLs x d := by
  unfold nodeAt
  rw [h.tree.nodeOf hx, depR_yes h hd]
  try rfl
theorem down_eq (h : CheckM m) {x : ANode} (hx : x ∈ m.nodes) {d : Nat} (hd : Dep m d x.id) : downLs m x.id = nodeLs x d ++ x.kids.flatMap (downLs m) := by
  unfold downLs
  rw [List.flatMap_cons, nodeAt_eq h hx hd, h.tree.below_eq hx]
  congr 1
  rw [List.flatMap_assoc]
  try rfl
theorem doc_eq (m : AModel) : docLs m = headLn m :: (rootsL m).flatMap (downLs m) := by
  unfold docLs orderL
  rw [List.flatMap_assoc]
  try rfl
/-- the roots, one node after the other -/
noncomputable def rootTo (m : AModel) (i : Nat) : List (List UInt8) := (m.nodes.take i).flatMap fun x => if x.parent = 0 then downLs m x.id else []
theorem rootTo_yes {i : Nat} (hi : i < m.nodes.length) (h0 : m.nodes[i].parent = 0) : rootTo m (i + 1) = rootTo m i ++ downLs m m.nodes[i].id := by
  unfold rootTo
  rw [List.take_succ_eq_append_getElem hi, List.flatMap_append]
  simp [h0]
theorem rootTo_no {i : Nat} (hi : i < m.nodes.length) (h0 : m.nodes[i].parent ≠ 0) : rootTo m (i + 1) = rootTo m i := by
  unfold rootTo
  rw [List.take_succ_eq_append_getElem hi, List.flatMap_append]
  simp [h0]
theorem rootTo_all (m : AModel) : rootTo m m.nodes.length = (rootsL m).flatMap (downLs m) := by
  unfold rootTo rootsL
  rw [List.take_length]
  generalize m.nodes = l
  induction l with
  | nil => rfl
  | cons x r ih =>
    rw [List.flatMap_cons, ih]
    by_cases h : x.parent = 0
    · have e : (x.parent == 0) = true := by simpa using h
      rw [if_pos h, List.filter_cons, if_pos e, List.map_cons, List.flatMap_cons]
    · have e : ¬ (x.parent == 0) = true := by simpa using h
      rw [if_neg h, List.filter_cons, if_neg e]; rfl
theorem blanks_len (n : Nat) : (blanksL n).length = n := List.length_replicate
/-- what a line's length is at most -/
theorem node_len {z : ANode} {d : Nat} (hd : d ≤ 64) (h1 : z.id.toNat ≤ 2000000) (h2 : z.concept.size ≤ 33) (h3 : z.role.size ≤ 33) (hp : ∀ p ∈ z.props, p.name.size ≤ 33 ∧ p.value.size ≤ 4096) (hr : ∀ r ∈ z.refs, r.role.size ≤ 33 ∧ r.target.toNat ≤ 2000000) : ∀ l ∈ nodeLs z d, l.length ≤ 20000 := by
  intro l hl
  rcases List.mem_cons.1 hl with rfl | hl
  · have e1 := digs_len 6 z.id.toNat (by omega)
    have e2 : z.concept.data.toList.length = z.concept.size := rfl
    have e3 : z.role.data.toList.length = z.role.size := rfl
    unfold lineN roleL
    simp only [List.length_append, blanks_len, List.length_cons, List.length_nil]
    split
    all_goals simp only [List.length_cons, List.length_nil]; omega
  · rcases List.mem_append.1 hl with hl | hl
    · obtain ⟨p, hp1, rfl⟩ := List.mem_map.1 hl
      have e1 := hp p hp1
      have e2 : p.name.data.toList.length = p.name.size := rfl
      have e3 : p.value.data.toList.length = p.value.size := rfl
      have e4 := quote_len p.value.data.toList
      unfold lineP
      simp only [List.length_append, blanks_len, List.length_cons, List.length_nil]
      omega
    · obtain ⟨r, hr1, rfl⟩ := List.mem_map.1 hl
      have e1 := hr r hr1
      have e2 : r.role.data.toList.length = r.role.size := rfl
      have e4 := digs_len 6 r.target.toNat (by omega)
      unfold lineR
      simp only [List.length_append, blanks_len, List.length_cons, List.length_nil]
      omega
theorem word33 {s : ByteArray} (h : wordA s = true) : s.size ≤ 33 := by
  have e : s.size = s.data.toList.length := rfl
  unfold wordA strip at h
  rw [e]
  generalize s.data.toList = l at h
  have key : ∀ r : List UInt8, rightB r = true → r.length ≤ 32 := fun r hr => by
    cases r with
    | nil => simp
    | cons c r =>
      simp only [rightB, Bool.and_eq_true, decide_eq_true_eq] at hr
      simp only [List.length_cons]; omega
  split at h
  · have := key _ h
    rw [List.length_tail] at this
    omega
  · have := key _ h
    omega
/-- what is bounded in a right model's node -/
structure Fit (z : ANode) : Prop where
  id1 : 1 ≤ z.id
  id2 : z.id ≤ 1048577
  con : z.concept.size ≤ 33
  rol : z.role.size ≤ 33
  root : z.parent = 0 → z.role = ⟨#[]⟩
  prop : ∀ i (h : i < z.props.length), z.props[i].name.size ≤ 33 ∧ z.props[i].value.size ≤ 4096
  ref : ∀ i (h : i < z.refs.length), z.refs[i].role.size ≤ 33 ∧ 1 ≤ z.refs[i].target ∧ z.refs[i].target ≤ 1048577
theorem fit_of (h : CheckM m) {z : ANode} (hz : z ∈ m.nodes) : Fit z := by
  obtain ⟨a1, a2, a3, a4, a5, a6⟩ := h.2.1 z hz
  have hn := h.1.1.2.1
  obtain ⟨i, hi, rfl⟩ := List.getElem_of_mem hz
  have hid := h.1.2 i hi
  refine ⟨hid.1, by omega, word33 a1, ?_, fun h0 => ?_, fun j hj => ?_, fun j hj => ?_⟩
  · by_cases hr : m.nodes[i].role.size = 0
    · omega
    · exact word33 (a3 hr)
  · have h1 := a2.1 h0
    have h2 : m.nodes[i].role.data.size = 0 := h1
    have h3 : m.nodes[i].role.data = #[] := Array.eq_empty_of_size_eq_zero h2
    exact ByteArray.ext h3
  · have := a5 j hj
    exact ⟨word33 this.1, this.2.1⟩
  · have := a6 j hj
    exact ⟨word33 this.1, this.2.1, by omega⟩
theorem fit_len {z : ANode} (h : Fit z) {d : Nat} (hd : d ≤ 64) : ∀ l ∈ nodeLs z d, l.length ≤ 20000 := by
  have h1 := h.id1
  have h2 := h.id2
  refine node_len hd (by omega) h.con h.rol (fun p hp => ?_) (fun r hr => ?_)
  · obtain ⟨i, hi, rfl⟩ := List.getElem_of_mem hp
    exact h.prop i hi
  · obtain ⟨i, hi, rfl⟩ := List.getElem_of_mem hr
    have := h.ref i hi
    exact ⟨this.1, by omega⟩
theorem dep_root {d : Nat} {z : ANode} (h : CheckM m) (hz : z ∈ m.nodes) (hd : Dep m d z.id) (h1 : d ≤ 1) : z.parent = 0 := by
  generalize hk : z.id = k at hd
  cases hd with
  | root x hx h0 =>
    have := node_inj h.1.2 hz hx hk
    rw [this]; exact h0
  | kid e x hx hp hd => have := hd.pos; omega
theorem dep_any (h : CheckM m) {z : ANode} (hz : z ∈ m.nodes) : ∃ d, Dep m d z.id ∧ 1 ≤ d ∧ d ≤ 64 := by
  obtain ⟨d, hd1, hd⟩ := h.tree.dep z hz
  exact ⟨d, hd, hd.pos, hd1⟩
/-- what Print answers -/
noncomputable def textL (m : AModel) : List UInt8 := joinL (docLs m)
def PrintRes (m : AModel) (v : Value) : Prop :=
  (¬ CheckM m ∧ v = .tuple #[.string ⟨#[]⟩, .int .i64 29]) ∨ (CheckM m ∧ (textL m).length ≤ 1048576 ∧ v = .tuple #[.string (byt (textL m)), .int .i64 0]) ∨ (CheckM m ∧ 1048576 < (textL m).length ∧ v = .tuple #[.string ⟨#[]⟩, .int .i64 3])
theorem PrintRes.uniq {v v' : Value} (h : PrintRes m v) (h' : PrintRes m v') : v = v' := by
  rcases h with ⟨a, e⟩ | ⟨a, b, e⟩ | ⟨a, b, e⟩ <;> rcases h' with ⟨a', e'⟩ | ⟨a', b', e'⟩ | ⟨a', b', e'⟩
  all_goals first
    | exact e.trans e'.symm
    | exact absurd a a'
    | exact absurd a' a
    | omega
/-- the text of the first nodes in document order -/
noncomputable def docTo (m : AModel) (i : Nat) : List UInt8 := joinL (headLn m :: ((orderL m).take i).flatMap (nodeAt m))
theorem docTo_all (m : AModel) : docTo m (orderL m).length = textL m := by unfold docTo textL docLs; rw [List.take_length]
theorem docTo_next {i : Nat} (hi : i < (orderL m).length) : docTo m (i + 1) = docTo m i ++ joinL (nodeAt m (orderL m)[i]) := by
  unfold docTo
  rw [List.take_succ_eq_append_getElem hi, List.flatMap_append, List.flatMap_cons, List.flatMap_nil, List.append_nil, ← List.cons_append, joinL_app]
theorem docTo_le (m : AModel) (i : Nat) : (docTo m i).length ≤ (textL m).length := by
  unfold docTo textL docLs
  conv => rhs; rw [← List.take_append_drop i (orderL m), List.flatMap_append, ← List.cons_append, joinL_app, List.length_append]
  omega
theorem joinL_len {ls : List (List UInt8)} {K : Nat} (h : ∀ l ∈ ls, l.length ≤ K) : (joinL ls).length ≤ ls.length * (K + 1) := by
  induction ls with
  | nil => simp [joinL]
  | cons a r ih =>
    rw [joinL_cons, List.length_append, List.length_append, List.length_cons]
    have h1 := h a (List.mem_cons_self ..)
    have h2 := ih (fun l hl => h l (List.mem_cons_of_mem _ hl))
    simp only [List.length_cons, List.length_nil]
    rw [Nat.succ_mul]
    omega
end
end Go.Proofs.YtpkapommekkbcaaDoor
