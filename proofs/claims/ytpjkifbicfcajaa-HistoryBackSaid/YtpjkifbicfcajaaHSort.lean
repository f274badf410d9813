import Derived.Test.YtpjkifbicfcajaaHTouchP
import Derived.Test.YtpjkifbicfcajaaShelf
import Derived.Sort.OwnSortedInts
set_option linter.unusedSimpArgs false
set_option linter.unusedVariables false
section
/- a map of nodes by their numbers -/
namespace Go.Proofs.Ytpjkifbicfcajaa
open Go Go.RowKit Go.Maps

/-- an element reads as itself -/
def heldE (v : Value) : Option (DataW Value × List MemPlace) := some (.held v, [])
theorem lawI : Keyed Try.prog 3 := int_keyed Try.underlying3
def zeroN : Value := .agg #[.int .i64 0, .string ⟨#[]⟩, .int .i64 0, .string ⟨#[]⟩, .slice none 0 0, .slice none 0 0, .slice none 0 0]
theorem zeroN_run (w : World) : (zeroValue 79).run Try.prog w = .ok zeroN w := by kernel_rfl
theorem keyI {id : Int} (h : InR id) : keyOf Try.prog 3 (.int .i64 id) = some (.int .i64 id) := keyOf_int_mk Try.underlying3 (by
  have h1 : IntKind.i64.min = -9223372036854775808 := by decide
  have h2 : IntKind.i64.max = 9223372036854775807 := by decide
  simp only [Lit.wf, Bool.and_eq_true, decide_eq_true_eq, h1, h2]
  exact h)
def kI (id : Int) : Lit := .int .i64 id
theorem kI_ne {a b : Int} (h : a ≠ b) : kI a ≠ kI b := fun e => h (by injection e)
theorem kI_same (a b : Int) : (kI a).sameKey (kI b) = decide (a = b) := by
  by_cases h : a = b
  · subst h; simp [kI, Lit.sameKey]
  · rw [sameKey_ne (kI_ne h)]; simp [h]
/-- the map of a list's nodes, but for some numbers -/
structure MapOf (D : DataW Value) (l : List LN) (dl : List Int) : Prop where
  isMap : IsMap D
  has_ : ∀ id : Int, Maps.has D (kI id) = true ↔ (∃ x ∈ l, x.n.id = id) ∧ id ∉ dl
  at_ : ∀ x ∈ l, x.n.id ∉ dl → ∀ z, D.atKey (kI x.n.id) z = .held (.agg x.cells.toArray)
theorem MapOf.start : MapOf (.map []) [] [] := ⟨isMap_empty, fun id => by simp [Maps.has], fun x hx => by simp at hx⟩
theorem MapOf.put {D : DataW Value} {l : List LN} (h : MapOf D l []) (x : LN) (hx : ∀ y ∈ l, y.n.id ≠ x.n.id) : MapOf (D.put (kI x.n.id) (.held (.agg x.cells.toArray))) (l ++ [x]) [] := by
  refine ⟨h.isMap.put _ _, fun id => ?_, fun y hy _ z => ?_⟩
  · by_cases e : id = x.n.id
    · subst e
      rw [has_put_same h.isMap (show WideAt.IsKeyLit (kI x.n.id) from trivial)]
      simp
    · rw [has_put_other (kI_ne e), h.has_]
      simp only [List.mem_append, List.mem_cons, List.not_mem_nil, or_false, not_false_eq_true, and_true]
      constructor
      · rintro ⟨y, hy, e2⟩; exact ⟨y, .inl hy, e2⟩
      · rintro ⟨y, hy | rfl, e2⟩
        · exact ⟨y, hy, e2⟩
        · exact absurd e2.symm e
  · rcases List.mem_append.1 hy with hy | hy
    · rw [atKey_put_other (kI_ne (hx y hy))]
      exact h.at_ y hy (by simp) z
    · simp only [List.mem_cons, List.not_mem_nil, or_false] at hy
      subst hy
      exact atKey_put_same h.isMap (show WideAt.IsKeyLit (kI y.n.id) from trivial) _ _
theorem MapOf.del {D : DataW Value} {l : List LN} {dl : List Int} (h : MapOf D l dl) (id : Int) : MapOf (D.del (kI id)) l (dl ++ [id]) := by
  refine ⟨h.isMap.del _, fun i => ?_, fun x hx hn z => ?_⟩
  · by_cases e : i = id
    · subst e
      rw [has_del_same]
      simp
    · rw [has_del_other (kI_ne e), h.has_]
      simp [e]
  · have hn' : x.n.id ∉ dl ∧ x.n.id ≠ id := by simpa using hn
    rw [atKey_del_other (kI_ne hn'.2)]
    exact h.at_ x hx hn'.1 z
/-- the keys that have come -/
def Coll (D : DataW Value) (left : Lit → Bool) (cs : List Int) : Prop := cs.Nodup ∧ ∀ id : Int, id ∈ cs ↔ Maps.has D (kI id) = true ∧ left (kI id) = false
theorem Coll.start (D : DataW Value) : Coll D (Maps.has D) [] := ⟨List.nodup_nil, fun id => by simp⟩
theorem Coll.step {D : DataW Value} {left : Lit → Bool} {cs : List Int} (h : Coll D left cs) {x : Int} (hl : left (kI x) = true) (hd : Maps.has D (kI x) = true) : Coll D (fun z => left z && !z.sameKey (kI x)) (cs ++ [x]) := by
  refine ⟨List.nodup_append.2 ⟨h.1, by simp, fun a ha b hb e => ?_⟩, fun id => ?_⟩
  · simp at hb; subst hb; subst e
    have := ((h.2 a).1 ha).2
    rw [hl] at this; cases this
  · show id ∈ cs ++ [x] ↔ Maps.has D (kI id) = true ∧ (left (kI id) && !(kI id).sameKey (kI x)) = false
    rw [List.mem_append, h.2, kI_same]
    by_cases e : id = x
    · subst e; simp [hd]
    · simp [e]
section
variable {ops : Array Oper} {rest : List Oper} {o : Oper} {a : Act} {Q : Exit → Act → World → Prop}
set_option maxRecDepth 100000 in
theorem wpList_lookup_held (w : World) (hg : o.guard = none) (m x : Operand) (t : TypeId) (hop : o.op = Op.lookup t m x true) (ht : Try.prog.underlying t = some (.map 3 79)) (b n : Nat) (D : DataW Value)
    (hm : a.eval m = .map (some b)) (hown : w.ownsMap Try.prog 3 heldE b n D) (id : Int) (hx : a.eval x = .int .i64 id) (hin : InR id) (u : Value) (hb : Bool) (hu : D.atKey (kI id) (.held zeroN) = .held u) (hh : Maps.has D (kI id) = hb)
    (hK : wpList Try.prog ops Q rest (a.put o.dst (.tuple #[u, .bool hb])) w) : wpList Try.prog ops Q (o :: rest) a w :=
  wpList_lookup_own_ok w hg m x t hop 3 79 lawI ht heldE (zeroN_run w) (.held zeroN) [] rfl b n D hm hown (.int .i64 id) (kI id) hx (keyI hin) (fun v ps hv => by
    have h2 : DataW.held v = D.atKey (kI id) (.held zeroN) := by
      unfold heldE at hv
      injection hv with hv
      exact (Prod.mk.inj hv).1
    rw [hu] at h2
    injection h2 with h2
    rw [h2, hh]
    exact hK)
end
/-- a list's block is no map's -/
theorem own_ne_map {w : World} {base : Nat} {e : TypeId} {size : Nat} {v : Value} {n : Nat} {xs : List Value} (h : w.ownsRow base e size v n xs) {b k : Nat} {D : DataW Value} (hm : w.ownsMap Try.prog 3 heldE b k D) : v.ownBlock ≠ some b := by
  intro eb
  obtain ⟨es, clock, hb, _⟩ := hm
  rcases h.2 with ⟨rfl, _⟩ | ⟨g, cap, cur, rfl, _, hh, _⟩
  · simp [Value.ownBlock] at eb
  · simp [Value.ownBlock] at eb
    subst eb
    rw [hh] at hb
    injection hb with hb
    cases hb
theorem own_ne_iter {w : World} {base : Nat} {e : TypeId} {size : Nat} {v : Value} {n : Nat} {xs : List Value} (h : w.ownsRow base e size v n xs) {b r k cnt : Nat} {D : DataW Value} {left : Lit → Bool} (hm : w.ranges Try.prog 3 heldE b r k D left cnt) : v.ownBlock ≠ some r :=
  fun eb => row_ne_iter h hm eb.symm
end Go.Proofs.Ytpjkifbicfcajaa
end
section
/- a list of numbers of the call's own is sorted -/
namespace Go.Proofs.Ytpjkifbicfcajaa
open Go Go.RowKit Go.Sort

theorem sortOwn_any (v : Value) (l : List Int) (w : World) (base : Nat) (h : OwnI w base v l) (hl : l.length < 4611686018427387904) :
    Calls Try.prog 45 #[v] w fun e w' => e = .returned (.tuple #[]) ∧ OwnI w' base v (l.mergeSort fun x y => decide (x ≤ y)) ∧ w.grownBy w' v.ownBlock := by
  unfold OwnI at h
  rcases h.2 with ⟨rfl, h0⟩ | ⟨g, cap, cur, rfl, hbase, hb, h1, h2, h3, h4⟩
  · obtain rfl := List.eq_nil_of_length_eq_zero h0
    refine (Try.slices_Sort_int_none none 0 w).mono ?_
    rintro e w' ⟨rfl, rfl⟩
    exact ⟨rfl, by simpa using OwnI.nil _ base, World.grownBy.refl _ _⟩
  · have hH := holds_of_blockI (e := 3) (ss := l) hb (by simpa using h4)
    refine (Try.slices_Sort_int g 0 cap l w hH (Array.getElem?_eq_some_iff.1 hb).1 hl).mono ?_
    rintro e w' ⟨rfl, n, os, rfl⟩
    have hlen : (l.mergeSort fun x y => decide (x ≤ y)).length = l.length := by simp
    refine ⟨rfl, ?_, grownBy_sortedI _⟩
    have := ownsRow_sortedI (n := n) (os := os) (ss := l) (ts := l.mergeSort fun x y => decide (x ≤ y)) hlen hbase hb h1 h2 h3
    unfold OwnI
    simpa using this
end Go.Proofs.Ytpjkifbicfcajaa
end
