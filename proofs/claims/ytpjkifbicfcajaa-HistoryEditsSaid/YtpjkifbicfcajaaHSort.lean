import Derived.Test.YtpjkifbicfcajaaRowC
import Derived.Test.YtpjkifbicfcajaaACheck
import Derived.Maps.RangeWalk
import Derived.Maps.OwnSet
import Derived.Sort.OwnSorted
import Derived.Test.YtpjkifbicfcajaaShelf
import Derived.Sort.OwnSortedInts
set_option linter.unusedSimpArgs false
set_option linter.unusedVariables false
section
/- the nodes in which two models differ: plain -/
namespace Go.Proofs.Ytpjkifbicfcajaa
open Go Go.RowKit

open Classical in
/-- the document's way: both lists at once, by their numbers -/
noncomputable def mergeT (xs ys : List ANode) : List Int := match xs, ys with
  | [], [] => []
  | [], y :: ys => y.id :: mergeT [] ys
  | x :: xs, [] => x.id :: mergeT xs []
  | x :: xs, y :: ys => if x.id < y.id then x.id :: mergeT xs (y :: ys) else if y.id < x.id then y.id :: mergeT (x :: xs) ys else if x = y then mergeT xs ys else x.id :: mergeT xs ys
termination_by xs.length + ys.length
theorem mergeT_nil : mergeT [] [] = [] := by rw [mergeT]
theorem mergeT_right (y : ANode) (ys : List ANode) : mergeT [] (y :: ys) = y.id :: mergeT [] ys := by rw [mergeT]
theorem mergeT_left (x : ANode) (xs : List ANode) : mergeT (x :: xs) [] = x.id :: mergeT xs [] := by rw [mergeT]
theorem mergeT_lt {x y : ANode} (xs ys : List ANode) (h : x.id < y.id) : mergeT (x :: xs) (y :: ys) = x.id :: mergeT xs (y :: ys) := by rw [mergeT, if_pos h]
theorem mergeT_gt {x y : ANode} (xs ys : List ANode) (h : y.id < x.id) : mergeT (x :: xs) (y :: ys) = y.id :: mergeT (x :: xs) ys := by rw [mergeT, if_neg (by omega), if_pos h]
theorem mergeT_same {x : ANode} (xs ys : List ANode) : mergeT (x :: xs) (x :: ys) = mergeT xs ys := by rw [mergeT, if_neg (by omega), if_neg (by omega), if_pos rfl]
theorem mergeT_diff {x y : ANode} (xs ys : List ANode) (h : x.id = y.id) (hne : x ≠ y) : mergeT (x :: xs) (y :: ys) = x.id :: mergeT xs ys := by rw [mergeT, if_neg (by omega), if_neg (by omega), if_neg hne]
/-- rising numbers -/
def Ris (l : List ANode) : Prop := l.Pairwise (fun x y => x.id < y.id)
/-- a number of a node that is in one of both alone -/
def Diff (a b : List ANode) (n : Int) : Prop := (∃ x ∈ a, x.id = n ∧ x ∉ b) ∨ (∃ y ∈ b, y.id = n ∧ y ∉ a)
theorem mergeT_spec : ∀ (k : Nat) (a b : List ANode), a.length + b.length ≤ k → Ris a → Ris b → (mergeT a b).Pairwise (· < ·) ∧ ∀ n, n ∈ mergeT a b ↔ Diff a b n := by
  intro k
  induction k with
  | zero =>
    intro a b h _ _
    have ha : a = [] := List.eq_nil_of_length_eq_zero (by omega)
    have hb : b = [] := List.eq_nil_of_length_eq_zero (by omega)
    subst ha hb
    rw [mergeT_nil]
    exact ⟨List.Pairwise.nil, fun n => by simp [Diff]⟩
  | succ k ih =>
    intro a b h ha hb
    have low : ∀ (z : ANode) (a b : List ANode), (∀ x ∈ a, z.id < x.id) → (∀ x ∈ b, z.id < x.id) → ∀ n, Diff a b n → z.id < n := by
      intro z a b h1 h2 n hd
      rcases hd with ⟨x, hx, rfl, _⟩ | ⟨x, hx, rfl, _⟩
      · exact h1 x hx
      · exact h2 x hx
    cases a with
    | nil =>
      cases b with
      | nil => rw [mergeT_nil]; exact ⟨List.Pairwise.nil, fun n => by simp [Diff]⟩
      | cons y ys =>
        have hb' := List.pairwise_cons.1 hb
        obtain ⟨i1, i2⟩ := ih [] ys (by simp at h ⊢; omega) ha hb'.2
        rw [mergeT_right]
        refine ⟨List.pairwise_cons.2 ⟨fun n hn => low y [] ys (by simp) hb'.1 n ((i2 n).1 hn), i1⟩, fun n => ?_⟩
        rw [List.mem_cons, i2]
        simp [Diff, eq_comm]
    | cons x xs =>
      have ha' := List.pairwise_cons.1 ha
      cases b with
      | nil =>
        obtain ⟨i1, i2⟩ := ih xs [] (by simp at h ⊢; omega) ha'.2 hb
        rw [mergeT_left]
        refine ⟨List.pairwise_cons.2 ⟨fun n hn => low x xs [] ha'.1 (by simp) n ((i2 n).1 hn), i1⟩, fun n => ?_⟩
        rw [List.mem_cons, i2]
        simp [Diff, eq_comm]
      | cons y ys =>
        have hb' := List.pairwise_cons.1 hb
        have nx : x ∉ xs := fun e => by have := ha'.1 x e; omega
        have ny : y ∉ ys := fun e => by have := hb'.1 y e; omega
        rcases Int.lt_trichotomy x.id y.id with hxy | hxy | hxy
        · obtain ⟨i1, i2⟩ := ih xs (y :: ys) (by simp at h ⊢; omega) ha'.2 hb
          have hlow : ∀ z ∈ y :: ys, x.id < z.id := fun z hz => by
            rcases List.mem_cons.1 hz with rfl | hz
            · exact hxy
            · have := hb'.1 z hz; omega
          have nxb : x ∉ y :: ys := fun e => by have := hlow x e; omega
          rw [mergeT_lt _ _ hxy]
          refine ⟨List.pairwise_cons.2 ⟨fun n hn => low x xs _ ha'.1 hlow n ((i2 n).1 hn), i1⟩, fun n => ?_⟩
          rw [List.mem_cons, i2]
          constructor
          · rintro (rfl | ⟨z, hz, e, hn⟩ | ⟨z, hz, e, hn⟩)
            · exact .inl ⟨x, by simp, rfl, nxb⟩
            · exact .inl ⟨z, List.mem_cons_of_mem _ hz, e, hn⟩
            · exact .inr ⟨z, hz, e, fun hm => by
                rcases List.mem_cons.1 hm with rfl | hm
                · exact nxb hz
                · exact hn hm⟩
          · rintro (⟨z, hz, e, hn⟩ | ⟨z, hz, e, hn⟩)
            · rcases List.mem_cons.1 hz with rfl | hz
              · exact .inl e.symm
              · exact .inr (.inl ⟨z, hz, e, hn⟩)
            · exact .inr (.inr ⟨z, hz, e, fun hm => hn (List.mem_cons_of_mem _ hm)⟩)
        · obtain ⟨i1, i2⟩ := ih xs ys (by simp at h ⊢; omega) ha'.2 hb'.2
          have la : ∀ z ∈ xs, x.id < z.id := ha'.1
          have lb : ∀ z ∈ ys, x.id < z.id := fun z hz => by have := hb'.1 z hz; omega
          have nyxs : y ∉ xs := fun e => by have := la y e; omega
          have nxys : x ∉ ys := fun e => by have := lb x e; omega
          by_cases he : x = y
          · subst he
            rw [mergeT_same]
            refine ⟨i1, fun n => ?_⟩
            rw [i2]
            constructor
            · rintro (⟨z, hz, e, hn⟩ | ⟨z, hz, e, hn⟩)
              · exact .inl ⟨z, List.mem_cons_of_mem _ hz, e, fun hm => by
                  rcases List.mem_cons.1 hm with rfl | hm
                  · exact nx hz
                  · exact hn hm⟩
              · exact .inr ⟨z, List.mem_cons_of_mem _ hz, e, fun hm => by
                  rcases List.mem_cons.1 hm with rfl | hm
                  · exact ny hz
                  · exact hn hm⟩
            · rintro (⟨z, hz, e, hn⟩ | ⟨z, hz, e, hn⟩)
              · rcases List.mem_cons.1 hz with rfl | hz
                · exact absurd (List.mem_cons_self ..) hn
                · exact .inl ⟨z, hz, e, fun hm => hn (List.mem_cons_of_mem _ hm)⟩
              · rcases List.mem_cons.1 hz with rfl | hz
                · exact absurd (List.mem_cons_self ..) hn
                · exact .inr ⟨z, hz, e, fun hm => hn (List.mem_cons_of_mem _ hm)⟩
          · rw [mergeT_diff _ _ hxy he]
            refine ⟨List.pairwise_cons.2 ⟨fun n hn => low x xs ys la lb n ((i2 n).1 hn), i1⟩, fun n => ?_⟩
            rw [List.mem_cons, i2]
            constructor
            · rintro (rfl | ⟨z, hz, e, hn⟩ | ⟨z, hz, e, hn⟩)
              · exact .inl ⟨x, by simp, rfl, fun hm => by
                  rcases List.mem_cons.1 hm with h1 | hm
                  · exact he h1
                  · exact nxys hm⟩
              · exact .inl ⟨z, List.mem_cons_of_mem _ hz, e, fun hm => by
                  rcases List.mem_cons.1 hm with rfl | hm
                  · exact nyxs hz
                  · exact hn hm⟩
              · exact .inr ⟨z, List.mem_cons_of_mem _ hz, e, fun hm => by
                  rcases List.mem_cons.1 hm with rfl | hm
                  · exact nxys hz
                  · exact hn hm⟩
            · rintro (⟨z, hz, e, hn⟩ | ⟨z, hz, e, hn⟩)
              · rcases List.mem_cons.1 hz with rfl | hz
                · exact .inl e.symm
                · exact .inr (.inl ⟨z, hz, e, fun hm => hn (List.mem_cons_of_mem _ hm)⟩)
              · rcases List.mem_cons.1 hz with rfl | hz
                · exact .inl (by omega)
                · exact .inr (.inr ⟨z, hz, e, fun hm => hn (List.mem_cons_of_mem _ hm)⟩)
        · obtain ⟨i1, i2⟩ := ih (x :: xs) ys (by simp at h ⊢; omega) ha hb'.2
          have hlow : ∀ z ∈ x :: xs, y.id < z.id := fun z hz => by
            rcases List.mem_cons.1 hz with rfl | hz
            · exact hxy
            · have := ha'.1 z hz; omega
          have nya : y ∉ x :: xs := fun e => by have := hlow y e; omega
          rw [mergeT_gt _ _ hxy]
          refine ⟨List.pairwise_cons.2 ⟨fun n hn => low y (x :: xs) ys hlow hb'.1 n ((i2 n).1 hn), i1⟩, fun n => ?_⟩
          rw [List.mem_cons, i2]
          constructor
          · rintro (rfl | ⟨z, hz, e, hn⟩ | ⟨z, hz, e, hn⟩)
            · exact .inr ⟨y, by simp, rfl, nya⟩
            · exact .inl ⟨z, hz, e, fun hm => by
                rcases List.mem_cons.1 hm with rfl | hm
                · exact nya hz
                · exact hn hm⟩
            · exact .inr ⟨z, List.mem_cons_of_mem _ hz, e, hn⟩
          · rintro (⟨z, hz, e, hn⟩ | ⟨z, hz, e, hn⟩)
            · exact .inr (.inl ⟨z, hz, e, fun hm => hn (List.mem_cons_of_mem _ hm)⟩)
            · rcases List.mem_cons.1 hz with rfl | hz
              · exact .inl e.symm
              · exact .inr (.inr ⟨z, hz, e, hn⟩)
/-- sorted, one is the other -/
theorem sorted_eq : ∀ {l l' : List Int}, l.Perm l' → l.Pairwise (· ≤ ·) → l'.Pairwise (· < ·) → l = l' := by
  intro l
  induction l with
  | nil => intro l' hp _ _; exact (List.nil_perm.1 hp).symm
  | cons x xs ih =>
    intro l' hp h1 h2
    cases l' with
    | nil => exact absurd hp.symm.nil_eq (by simp)
    | cons y ys =>
      have h1' := List.pairwise_cons.1 h1
      have h2' := List.pairwise_cons.1 h2
      have hx : x ∈ y :: ys := hp.mem_iff.1 (by simp)
      have hy : y ∈ x :: xs := hp.mem_iff.2 (by simp)
      have e : x = y := by
        rcases List.mem_cons.1 hx with e | hx
        · exact e
        · rcases List.mem_cons.1 hy with e | hy
          · exact e.symm
          · have a := h2'.1 x hx; have b := h1'.1 y hy; omega
      subst e
      rw [ih (List.perm_cons x |>.1 hp) h1'.2 h2'.2]
theorem perm_of_mem {l l' : List Int} (h1 : l.Nodup) (h2 : l'.Nodup) (h : ∀ n, n ∈ l ↔ n ∈ l') : l.Perm l' :=
  List.perm_iff_count.2 fun n => by
    by_cases hn : n ∈ l
    · rw [h1.count, h2.count, if_pos hn, if_pos ((h n).1 hn)]
    · rw [List.count_eq_zero.2 hn, List.count_eq_zero.2 (fun e => hn ((h n).2 e))]
/-- what the program has: of b's nodes those that are not a's, of a's numbers those that b has not -/
theorem sort_touched {a b : List ANode} {ob cs : List Int} (ha : Ris a) (hb : Ris b) (hob : ob.Nodup) (hcs : cs.Nodup) (h1 : ∀ n, n ∈ ob ↔ ∃ y ∈ b, y.id = n ∧ y ∉ a) (h2 : ∀ n, n ∈ cs ↔ (∃ x ∈ a, x.id = n) ∧ ¬ ∃ y ∈ b, y.id = n) :
    (ob ++ cs).mergeSort (fun x y => decide (x ≤ y)) = mergeT a b := by
  obtain ⟨s1, s2⟩ := mergeT_spec _ a b (Nat.le_refl _) ha hb
  have inj : ∀ l : List ANode, Ris l → ∀ x ∈ l, ∀ y ∈ l, x.id = y.id → x = y := by
    intro l hl
    induction l with
    | nil => intro x hx; simp at hx
    | cons z zs ih =>
      have hz := List.pairwise_cons.1 hl
      intro x hx y hy e
      rcases List.mem_cons.1 hx with h1 | h1 <;> rcases List.mem_cons.1 hy with h2 | h2
      · rw [h1, h2]
      · have := hz.1 y h2; rw [← h1] at this; omega
      · have := hz.1 x h1; rw [← h2] at this; omega
      · exact ih hz.2 x h1 y h2 e
  refine sorted_eq ((List.mergeSort_perm _ _).trans (perm_of_mem ?_ (s1.imp (fun h => by omega)) fun n => ?_)) ?_ s1
  · refine List.nodup_append.2 ⟨hob, hcs, fun x hx y hy e => ?_⟩
    subst e
    obtain ⟨y, hy1, hy2, _⟩ := (h1 x).1 hx
    exact ((h2 x).1 hy).2 ⟨y, hy1, hy2⟩
  · rw [s2, List.mem_append, h1, h2]
    constructor
    · rintro (h | ⟨⟨x, hx, e⟩, hn⟩)
      · exact .inr h
      · exact .inl ⟨x, hx, e, fun hm => hn ⟨x, hm, e⟩⟩
    · rintro (⟨x, hx, e, hn⟩ | h)
      · by_cases hb2 : ∃ y ∈ b, y.id = n
        · obtain ⟨y, hy, ey⟩ := hb2
          refine .inl ⟨y, hy, ey, fun hya => hn ?_⟩
          rw [inj a ha x hx y hya (by omega)]; exact hy
        · exact .inr ⟨⟨x, hx, e⟩, hb2⟩
      · exact .inl h
  · have := List.pairwise_mergeSort (le := fun (x y : Int) => decide (x ≤ y)) (fun a b c h1 h2 => by simp at *; omega) (fun a b => by simp; omega) (ob ++ cs)
    exact this.imp (fun h => by simpa using h)
theorem ris_of_ids {m : AModel} (h : IdsOK m) : Ris m.nodes := List.pairwise_iff_getElem.2 fun i j hi hj hij => ids_lt h.2 i j hi hj hij
end Go.Proofs.Ytpjkifbicfcajaa
end
section
/- a map of nodes by their numbers -/
namespace Go.Proofs.Ytpjkifbicfcajaa
open Go Go.RowKit Go.Maps

/-- an element reads as itself -/
def heldE (v : Value) : Option (DataW Value × List MemPlace) := some (.held v, [])
theorem lawI : Keyed Try.prog 3 := int_keyed Try.underlying3
def zeroN : Value := .agg #[.int .i64 0, .string ⟨#[]⟩, .int .i64 0, .string ⟨#[]⟩, .slice none 0 0, .slice none 0 0, .slice none 0 0]
theorem zeroN_run (w : World) : (zeroValue 79).run Try.prog w = .ok zeroN w := by kernel_rfl
theorem keyI {id : Int} (h : InR id) : keyOf Try.prog 3 (.int .i64 id) = some (.int .i64 id) := keyOf_int_mk Try.underlying3 (by
  have h1 : IntKind.i64.min = -9223372036854775808 := by decide
  have h2 : IntKind.i64.max = 9223372036854775807 := by decide
  simp only [Lit.wf, Bool.and_eq_true, decide_eq_true_eq, h1, h2]
  exact h)
def kI (id : Int) : Lit := .int .i64 id
theorem kI_ne {a b : Int} (h : a ≠ b) : kI a ≠ kI b := fun e => h (by injection e)
theorem kI_same (a b : Int) : (kI a).sameKey (kI b) = decide (a = b) := by
  by_cases h : a = b
  · subst h; simp [kI, Lit.sameKey]
  · rw [sameKey_ne (kI_ne h)]; simp [h]
/-- the map of a list's nodes, but for some numbers -/
structure MapOf (D : DataW Value) (l : List LN) (dl : List Int) : Prop where
  isMap : IsMap D
  has_ : ∀ id : Int, Maps.has D (kI id) = true ↔ (∃ x ∈ l, x.n.id = id) ∧ id ∉ dl
  at_ : ∀ x ∈ l, x.n.id ∉ dl → ∀ z, D.atKey (kI x.n.id) z = .held (.agg x.cells.toArray)
theorem MapOf.start : MapOf (.map []) [] [] := ⟨isMap_empty, fun id => by simp [Maps.has], fun x hx => by simp at hx⟩
theorem MapOf.put {D : DataW Value} {l : List LN} (h : MapOf D l []) (x : LN) (hx : ∀ y ∈ l, y.n.id ≠ x.n.id) : MapOf (D.put (kI x.n.id) (.held (.agg x.cells.toArray))) (l ++ [x]) [] := by
  refine ⟨h.isMap.put _ _, fun id => ?_, fun y hy _ z => ?_⟩
  · by_cases e : id = x.n.id
    · subst e
      rw [has_put_same h.isMap (show WideAt.IsKeyLit (kI x.n.id) from trivial)]
      simp
    · rw [has_put_other (kI_ne e), h.has_]
      simp only [List.mem_append, List.mem_cons, List.not_mem_nil, or_false, not_false_eq_true, and_true]
      constructor
      · rintro ⟨y, hy, e2⟩; exact ⟨y, .inl hy, e2⟩
      · rintro ⟨y, hy | rfl, e2⟩
        · exact ⟨y, hy, e2⟩
        · exact absurd e2.symm e
  · rcases List.mem_append.1 hy with hy | hy
    · rw [atKey_put_other (kI_ne (hx y hy))]
      exact h.at_ y hy (by simp) z
    · simp only [List.mem_cons, List.not_mem_nil, or_false] at hy
      subst hy
      exact atKey_put_same h.isMap (show WideAt.IsKeyLit (kI y.n.id) from trivial) _ _
theorem MapOf.del {D : DataW Value} {l : List LN} {dl : List Int} (h : MapOf D l dl) (id : Int) : MapOf (D.del (kI id)) l (dl ++ [id]) := by
  refine ⟨h.isMap.del _, fun i => ?_, fun x hx hn z => ?_⟩
  · by_cases e : i = id
    · subst e
      rw [has_del_same]
      simp
    · rw [has_del_other (kI_ne e), h.has_]
      simp [e]
  · have hn' : x.n.id ∉ dl ∧ x.n.id ≠ id := by simpa using hn
    rw [atKey_del_other (kI_ne hn'.2)]
    exact h.at_ x hx hn'.1 z
/-- the keys that have come -/
def Coll (D : DataW Value) (left : Lit → Bool) (cs : List Int) : Prop := cs.Nodup ∧ ∀ id : Int, id ∈ cs ↔ Maps.has D (kI id) = true ∧ left (kI id) = false
theorem Coll.start (D : DataW Value) : Coll D (Maps.has D) [] := ⟨List.nodup_nil, fun id => by simp⟩
theorem Coll.step {D : DataW Value} {left : Lit → Bool} {cs : List Int} (h : Coll D left cs) {x : Int} (hl : left (kI x) = true) (hd : Maps.has D (kI x) = true) : Coll D (fun z => left z && !z.sameKey (kI x)) (cs ++ [x]) := by
  refine ⟨List.nodup_append.2 ⟨h.1, by simp, fun a ha b hb e => ?_⟩, fun id => ?_⟩
  · simp at hb; subst hb; subst e
    have := ((h.2 a).1 ha).2
    rw [hl] at this; cases this
  · show id ∈ cs ++ [x] ↔ Maps.has D (kI id) = true ∧ (left (kI id) && !(kI id).sameKey (kI x)) = false
    rw [List.mem_append, h.2, kI_same]
    by_cases e : id = x
    · subst e; simp [hd]
    · simp [e]
section
variable {ops : Array Oper} {rest : List Oper} {o : Oper} {a : Act} {Q : Exit → Act → World → Prop}
set_option maxRecDepth 100000 in
theorem wpList_lookup_held (w : World) (hg : o.guard = none) (m x : Operand) (t : TypeId) (hop : o.op = Op.lookup t m x true) (ht : Try.prog.underlying t = some (.map 3 79)) (b n : Nat) (D : DataW Value)
    (hm : a.eval m = .map (some b)) (hown : w.ownsMap Try.prog 3 heldE b n D) (id : Int) (hx : a.eval x = .int .i64 id) (hin : InR id) (u : Value) (hb : Bool) (hu : D.atKey (kI id) (.held zeroN) = .held u) (hh : Maps.has D (kI id) = hb)
    (hK : wpList Try.prog ops Q rest (a.put o.dst (.tuple #[u, .bool hb])) w) : wpList Try.prog ops Q (o :: rest) a w :=
  wpList_lookup_own_ok w hg m x t hop 3 79 lawI ht heldE (zeroN_run w) (.held zeroN) [] rfl b n D hm hown (.int .i64 id) (kI id) hx (keyI hin) (fun v ps hv => by
    have h2 : DataW.held v = D.atKey (kI id) (.held zeroN) := by
      unfold heldE at hv
      injection hv with hv
      exact (Prod.mk.inj hv).1
    rw [hu] at h2
    injection h2 with h2
    rw [h2, hh]
    exact hK)
end
/-- a list's block is no map's -/
theorem own_ne_map {w : World} {base : Nat} {e : TypeId} {size : Nat} {v : Value} {n : Nat} {xs : List Value} (h : w.ownsRow base e size v n xs) {b k : Nat} {D : DataW Value} (hm : w.ownsMap Try.prog 3 heldE b k D) : v.ownBlock ≠ some b := by
  intro eb
  obtain ⟨es, clock, hb, _⟩ := hm
  rcases h.2 with ⟨rfl, _⟩ | ⟨g, cap, cur, rfl, _, hh, _⟩
  · simp [Value.ownBlock] at eb
  · simp [Value.ownBlock] at eb
    subst eb
    rw [hh] at hb
    injection hb with hb
    cases hb
theorem own_ne_iter {w : World} {base : Nat} {e : TypeId} {size : Nat} {v : Value} {n : Nat} {xs : List Value} (h : w.ownsRow base e size v n xs) {b r k cnt : Nat} {D : DataW Value} {left : Lit → Bool} (hm : w.ranges Try.prog 3 heldE b r k D left cnt) : v.ownBlock ≠ some r :=
  fun eb => row_ne_iter h hm eb.symm
end Go.Proofs.Ytpjkifbicfcajaa
end
section
/- a list of numbers of the call's own is sorted -/
namespace Go.Proofs.Ytpjkifbicfcajaa
open Go Go.RowKit Go.Sort

theorem sortOwn_any (v : Value) (l : List Int) (w : World) (base : Nat) (h : OwnI w base v l) (hl : l.length < 4611686018427387904) :
    Calls Try.prog 45 #[v] w fun e w' => e = .returned (.tuple #[]) ∧ OwnI w' base v (l.mergeSort fun x y => decide (x ≤ y)) ∧ w.grownBy w' v.ownBlock := by
  unfold OwnI at h
  rcases h.2 with ⟨rfl, h0⟩ | ⟨g, cap, cur, rfl, hbase, hb, h1, h2, h3, h4⟩
  · obtain rfl := List.eq_nil_of_length_eq_zero h0
    refine (Try.slices_Sort_int_none none 0 w).mono ?_
    rintro e w' ⟨rfl, rfl⟩
    exact ⟨rfl, by simpa using OwnI.nil _ base, World.grownBy.refl _ _⟩
  · have hH := holds_of_blockI (e := 3) (ss := l) hb (by simpa using h4)
    refine (Try.slices_Sort_int g 0 cap l w hH (Array.getElem?_eq_some_iff.1 hb).1 hl).mono ?_
    rintro e w' ⟨rfl, n, os, rfl⟩
    have hlen : (l.mergeSort fun x y => decide (x ≤ y)).length = l.length := by simp
    refine ⟨rfl, ?_, grownBy_sortedI _⟩
    have := ownsRow_sortedI (n := n) (os := os) (ss := l) (ts := l.mergeSort fun x y => decide (x ≤ y)) hlen hbase hb h1 h2 h3
    unfold OwnI
    simpa using this
end Go.Proofs.Ytpjkifbicfcajaa
end
