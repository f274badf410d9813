import Derived.Test.YtmafhaadcjgcbaaBase
import Derived.Test.YtmafhaadcjgcbaaProg
import Derived.Maps.OwnOps
import Derived.Maps.OwnSet
import Derived.Maps.OwnRows
import Derived.Maps.Range
import Derived.Test.YtmafhaadcjgcbaaMut
import Derived.Test.YtmafhaadcjgcbaaMut2
import Derived.Test.YtmafhaadcjgcbaaMutK
set_option linter.unusedSimpArgs false
set_option linter.unusedVariables false
section
/- maps of values by whole numbers -/
namespace Go.Proofs.Ytmafhaadcjgcbaa
open Go Go.RowKit Go.Maps

/-- an element reads as itself -/
def heldM (v : Value) : Option (DataW Value × List MemPlace) := some (.held v, [])
theorem lawM : Keyed Try.prog 3 := int_keyed Try.underlying3
def InI (x : Int) : Prop := -9223372036854775808 ≤ x ∧ x ≤ 9223372036854775807
theorem keyM {id : Int} (h : InI id) : keyOf Try.prog 3 (.int .i64 id) = some (.int .i64 id) := keyOf_int_mk Try.underlying3 (by
  have h1 : IntKind.i64.min = -9223372036854775808 := by decide
  have h2 : IntKind.i64.max = 9223372036854775807 := by decide
  simp only [Lit.wf, Bool.and_eq_true, decide_eq_true_eq, h1, h2]
  exact h)
def kM (id : Int) : Lit := .int .i64 id
theorem kM_ne {a b : Int} (h : a ≠ b) : kM a ≠ kM b := fun e => h (by injection e)
/-- the map of some numbers' values -/
structure MapV (D : DataW Value) (bs : List (Int × Value)) : Prop where
  isMap : IsMap D
  has_ : ∀ id : Int, Maps.has D (kM id) = true ↔ ∃ p ∈ bs, p.1 = id
  at_ : ∀ p ∈ bs, ∀ z, D.atKey (kM p.1) z = .held p.2
theorem MapV.start : MapV (.map []) [] := ⟨isMap_empty, fun id => by simp [Maps.has], fun x hx => by simp at hx⟩
theorem MapV.put {D : DataW Value} {bs : List (Int × Value)} (h : MapV D bs) (p : Int × Value) (hx : ∀ q ∈ bs, q.1 ≠ p.1) : MapV (D.put (kM p.1) (.held p.2)) (bs ++ [p]) := by
  refine ⟨h.isMap.put _ _, fun id => ?_, fun y hy z => ?_⟩
  · by_cases e : id = p.1
    · subst e
      rw [has_put_same h.isMap (show WideAt.IsKeyLit (kM p.1) from trivial)]
      simp
    · rw [has_put_other (kM_ne e), h.has_]
      constructor
      · rintro ⟨y, hy, e2⟩; exact ⟨y, List.mem_append_left _ hy, e2⟩
      · rintro ⟨y, hy, e2⟩
        rcases List.mem_append.1 hy with hy | hy
        · exact ⟨y, hy, e2⟩
        · simp only [List.mem_cons, List.not_mem_nil, or_false] at hy
          subst hy; exact absurd e2.symm e
  · rcases List.mem_append.1 hy with hy | hy
    · rw [atKey_put_other (kM_ne (hx y hy))]
      exact h.at_ y hy z
    · simp only [List.mem_cons, List.not_mem_nil, or_false] at hy
      subst hy
      exact atKey_put_same h.isMap (show WideAt.IsKeyLit (kM y.1) from trivial) _ _
/-- what stands at a number, or z -/
def lookM (z : Value) (bs : List (Int × Value)) (id : Int) : Value := match bs.find? (fun p => p.1 == id) with | some p => p.2 | none => z
theorem MapV.look {D : DataW Value} {bs : List (Int × Value)} (h : MapV D bs) (z : Value) (id : Int) : D.atKey (kM id) (.held z) = .held (lookM z bs id) := by
  unfold lookM
  cases e : bs.find? (fun p => p.1 == id) with
  | some p =>
    have h1 := List.find?_some e
    have h2 := List.mem_of_find?_eq_some e
    have h3 : p.1 = id := by simpa using h1
    rw [← h3]
    exact h.at_ p h2 _
  | none =>
    refine atKey_of_not_has ?_ _
    cases hh : Maps.has D (kM id) with
    | false => rfl
    | true =>
      obtain ⟨p, hp, e2⟩ := (h.has_ id).1 hh
      have := List.find?_eq_none.1 e p hp
      simp [e2] at this
set_option maxRecDepth 100000 in
theorem look_run {w : World} {b n : Nat} {D : DataW Value} {bs : List (Int × Value)} {t e : TypeId} {z : Value} (hown : w.ownsMap Try.prog 3 heldM b n D) (hD : MapV D bs) (ht : Try.prog.underlying t = some (.map 3 e)) (hz : (zeroValue e).run Try.prog w = .ok z w) {id : Int} (hin : InI id) :
    (Instr.lookup t (.map (some b)) (.int .i64 id) false).run Try.prog w = .ok (lookM z bs id) w := by
  obtain ⟨v, ps, hrun, hv⟩ := hown.lookup (z := z) lawM ht hz (zd := .held z) (zp := []) rfl (keyM hin)
  rw [hrun]
  have h2 : DataW.held v = D.atKey (kM id) (.held z) := by
    unfold heldM at hv
    injection hv with hv
    exact (Prod.mk.inj hv).1
  rw [hD.look] at h2
  injection h2 with h2
  rw [h2]
theorem lookM_mem {z : Value} {bs : List (Int × Value)} {id : Int} (h : ∃ p ∈ bs, p.1 = id) : ∃ p ∈ bs, p.1 = id ∧ lookM z bs id = p.2 := by
  unfold lookM
  cases e : bs.find? (fun p => p.1 == id) with
  | some p => exact ⟨p, List.mem_of_find?_eq_some e, by simpa using List.find?_some e, rfl⟩
  | none =>
    obtain ⟨p, hp, e2⟩ := h
    have := List.find?_eq_none.1 e p hp
    simp [e2] at this
theorem lookM_not {z : Value} {bs : List (Int × Value)} {id : Int} (h : ∀ p ∈ bs, p.1 ≠ id) : lookM z bs id = z := by
  unfold lookM
  rw [List.find?_eq_none.2 (fun p hp => by simpa using h p hp)]
theorem zero_int (w : World) : (zeroValue 3).run Try.prog w = .ok (.int .i64 0) w := by kernel_rfl
end Go.Proofs.Ytmafhaadcjgcbaa
end
section
/- what a call owns, piece by piece: blocks known whole, rows, maps; each effect one law -/
namespace Go.Proofs.Ytmafhaadcjgcbaa
open Go Go.RowKit Go.Maps

inductive Chunk where
  | blk (g : Nat) (t : TypeId) (cs : Array Value)
  | row (e : TypeId) (size : Nat) (v : Value) (n : Nat) (xs : List Value)
  | mp (k : TypeId) (b n : Nat) (D : DataW Value)
def Chunk.place : Chunk → Option Nat
  | .blk g _ _ => some g
  | .row _ _ v _ _ => v.ownBlock
  | .mp _ b _ _ => some b
def Chunk.Holds (w : World) (base : Nat) : Chunk → Prop
  | .blk g t cs => base ≤ g ∧ Blk w g t cs
  | .row e s v n xs => w.ownsRow base e s v n xs
  | .mp k b n D => base ≤ b ∧ w.ownsMap Try.prog k heldM b n D
section
variable {w w' : World} {base base' : Nat} {c : Chunk}
theorem Chunk.Holds.lt (h : c.Holds w base) {b : Nat} (e : c.place = some b) : base ≤ b ∧ b < w.heap.size := by
  cases c with
  | blk g t cs => injection e with e; subst e; exact ⟨h.1, h.2.lt⟩
  | row _ _ v _ _ => exact World.ownsRow.lt h b e
  | mp k g n D => injection e with e; subst e; exact ⟨h.1, h.2.lt⟩
theorem Chunk.Holds.keep (h : c.Holds w base) (hk : ∀ b, c.place = some b → w'.heap[b]? = w.heap[b]?) : c.Holds w' base := by
  cases c with
  | blk g t cs => exact ⟨h.1, (hk g rfl).trans h.2⟩
  | row _ _ v _ _ => exact own_keep (w := w) h hk
  | mp k g n D =>
    obtain ⟨h1, es, clock, hb, r⟩ := h
    exact ⟨h1, es, clock, (hk g rfl).trans hb, r⟩
theorem Chunk.Holds.weaken (h : c.Holds w base) (hb : base' ≤ base) : c.Holds w base' := by
  cases c with
  | blk g t cs => exact ⟨Nat.le_trans hb h.1, h.2⟩
  | row _ _ v _ _ => exact own_weaken (w := w) h hb
  | mp k g n D => exact ⟨Nat.le_trans hb h.1, h.2⟩
end
def ApartC (l : List Chunk) : Prop := ∀ b, (l.map Chunk.place).count (some b) ≤ 1
structure Mem (w0 w : World) (l : List Chunk) : Prop where
  below : Below w0.heap.size w0 w
  holds : ∀ c ∈ l, c.Holds w w0.heap.size
  dis : ApartC l
section
variable {w0 w w' : World} {l l2 : List Chunk} {c c2 : Chunk}
theorem Mem.start (w : World) : Mem w w [] := ⟨Below.refl _ _, fun _ h => by simp at h, fun _ => by simp⟩
theorem Mem.size (h : Mem w0 w l) : w0.heap.size ≤ w.heap.size := h.below.size
theorem Mem.get (h : Mem w0 w l) {i : Nat} (hi : l[i]? = some c) : c.Holds w w0.heap.size := h.holds c (List.mem_of_getElem? hi)
theorem Mem.blk (h : Mem w0 w l) (i : Nat) {g : Nat} {t : TypeId} {cs : Array Value} (hi : l[i]? = some (.blk g t cs)) : Blk w g t cs := (h.get hi).2
theorem Mem.row (h : Mem w0 w l) (i : Nat) {e : TypeId} {s n : Nat} {v : Value} {xs : List Value} (hi : l[i]? = some (.row e s v n xs)) : w.ownsRow w0.heap.size e s v n xs := h.get hi
theorem Mem.map (h : Mem w0 w l) (i : Nat) {k : TypeId} {b n : Nat} {D : DataW Value} (hi : l[i]? = some (.mp k b n D)) : w.ownsMap Try.prog k heldM b n D := (h.get hi).2
theorem Mem.lt (h : Mem w0 w l) {i : Nat} (hi : l[i]? = some c) {b : Nat} (e : c.place = some b) : w0.heap.size ≤ b ∧ b < w.heap.size := (h.get hi).lt e
theorem place_mem (hc : c ∈ l) {b : Nat} (e : c.place = some b) : some b ∈ l.map Chunk.place := by rw [← e]; exact List.mem_map_of_mem hc
/-- two pieces at two places lie in two blocks -/
theorem ApartC.ne (h : ApartC l) {i j : Nat} (hi : l[i]? = some c) (hj : l[j]? = some c2) (hij : i ≠ j) {b b2 : Nat} (e : c.place = some b) (e2 : c2.place = some b2) : b ≠ b2 := by
  intro e3
  subst e3
  have hc := h b
  have hil : i < l.length := (List.getElem?_eq_some_iff.1 hi).1
  have hjl : j < l.length := (List.getElem?_eq_some_iff.1 hj).1
  have key : ∀ (m : List (Option Nat)) (i j : Nat), i < j → ∀ (hj : j < m.length), m[i]? = some (some b) → m[j]? = some (some b) → 2 ≤ m.count (some b) := by
    intro m
    induction m with
    | nil => intro i j _ hj; simp at hj
    | cons a r ih =>
      intro i j hij hj h1 h2
      cases j with
      | zero => omega
      | succ j =>
        rw [List.getElem?_cons_succ] at h2
        cases i with
        | zero =>
          rw [List.getElem?_cons_zero] at h1
          injection h1 with h1
          subst h1
          rw [List.count_cons_self]
          have := List.count_pos_iff.2 (List.mem_of_getElem? h2)
          omega
        | succ i =>
          rw [List.getElem?_cons_succ] at h1
          have := ih i j (by omega) (by simpa using hj) h1 h2
          rw [List.count_cons]; omega
  have h1 : (l.map Chunk.place)[i]? = some (some b) := by rw [List.getElem?_map, hi]; simp [e]
  have h2 : (l.map Chunk.place)[j]? = some (some b) := by rw [List.getElem?_map, hj]; simp [e2]
  rcases Nat.lt_or_ge i j with hlt | hge
  · have := key _ i j hlt (by simpa using hjl) h1 h2; omega
  · have := key _ j i (by omega) (by simpa using hil) h2 h1; omega
theorem Mem.ne (h : Mem w0 w l) {i j : Nat} (hi : l[i]? = some c) (hj : l[j]? = some c2) (hij : i ≠ j) {b b2 : Nat} (e : c.place = some b) (e2 : c2.place = some b2) : b ≠ b2 := h.dis.ne hi hj hij e e2
theorem ApartC.perm (h : ApartC l) (hp : l.Perm l2) : ApartC l2 := fun b => by rw [← (hp.map Chunk.place).count_eq]; exact h b
theorem ApartC.less (h : ApartC l) (hs : l2.Sublist l) : ApartC l2 := fun b => Nat.le_trans ((hs.map Chunk.place).count_le _) (h b)
theorem Mem.perm (h : Mem w0 w l) (hp : l.Perm l2) : Mem w0 w l2 := ⟨h.below, fun c hc => h.holds c (hp.mem_iff.2 hc), h.dis.perm hp⟩
theorem Mem.less (h : Mem w0 w l) (hs : l2.Sublist l) : Mem w0 w l2 := ⟨h.below, fun c hc => h.holds c (hs.subset hc), h.dis.less hs⟩
theorem Mem.cast (h : Mem w0 w l) (e : l = l2) : Mem w0 w l2 := e ▸ h
/-- a call that leaves all that is there -/
theorem Mem.call (h : Mem w0 w l) (hb : Below w.heap.size w w') : Mem w0 w' l :=
  ⟨h.below.trans (hb.mono h.size), fun c hc => (h.holds c hc).keep fun b e => hb.block b ((h.holds c hc).lt e).2, h.dis⟩
theorem Mem.drew (h : Mem w0 w l) : Mem w0 w.drew l := h.call (Below.refl _ _).drew
/-- a call that leaves all that is there, and gives new pieces -/
theorem Mem.more (h : Mem w0 w l) (hb : Below w.heap.size w w') (hn : ∀ c ∈ l2, c.Holds w' w.heap.size) (hd : ApartC l2) : Mem w0 w' (l2 ++ l) := by
  have h1 := h.call hb
  refine ⟨h1.below, fun c hc => ?_, fun b => ?_⟩
  · rcases List.mem_append.1 hc with hc | hc
    · exact (hn c hc).weaken h.size
    · exact h1.holds c hc
  · rw [List.map_append, List.count_append]
    by_cases hb2 : some b ∈ l2.map Chunk.place
    · obtain ⟨c, hc, e⟩ := List.mem_map.1 hb2
      have hge := ((hn c hc).lt e).1
      have h0 : (l.map Chunk.place).count (some b) = 0 := List.count_eq_zero.2 fun hm => by
        obtain ⟨c2, hc2, e2⟩ := List.mem_map.1 hm
        have := ((h.holds c2 hc2).lt e2).2
        omega
      have := hd b
      omega
    · have := h.dis b
      rw [List.count_eq_zero.2 hb2]; omega
theorem Mem.one (h : Mem w0 w l) (hb : Below w.heap.size w w') (hn : c.Holds w' w.heap.size) : Mem w0 w' (c :: l) :=
  h.more (l2 := [c]) hb (fun x hx => by rw [List.mem_singleton.1 hx]; exact hn) (fun b => by simp only [List.map_cons, List.map_nil, List.count_cons, List.count_nil]; split <;> omega)
theorem Mem.alloc (h : Mem w0 w l) (cs : Array Value) (t : TypeId) : Mem w0 (w.alloc (.cells cs t)) (.blk w.heap.size t cs :: l) :=
  h.one ((Below.refl w.heap.size w).alloc (Nat.le_refl _) _) ⟨Nat.le_refl _, Blk.new _ _ _⟩
/-- a piece that changes, all others stay -/
theorem Mem.turn (h : Mem w0 w l) {i : Nat} (hi : l[i]? = some c) (hb : Below w0.heap.size w w') (hk : ∀ j cj b, l[j]? = some cj → j ≠ i → cj.place = some b → w'.heap[b]? = w.heap[b]?) (hn : c2.Holds w' w0.heap.size) (hp : c2.place = c.place ∨ ∃ b, c2.place = some b ∧ w.heap.size ≤ b) : Mem w0 w' (l.set i c2) := by
  have hil : i < l.length := (List.getElem?_eq_some_iff.1 hi).1
  refine ⟨h.below.trans hb, fun x hx => ?_, fun b => ?_⟩
  · obtain ⟨j, hj, hjx⟩ := List.mem_iff_getElem.1 hx
    by_cases hij : j = i
    · subst hij; rw [List.getElem_set_self] at hjx; rw [← hjx]; exact hn
    · rw [List.getElem_set_ne (Ne.symm hij)] at hjx
      have hj2 : l[j]? = some x := by rw [List.getElem?_eq_getElem (by simpa using hj), hjx]
      exact (h.get hj2).keep fun b e => hk j x b hj2 hij e
  · have hd := h.dis b
    have key : ∀ (m : List (Option Nat)) (i : Nat) (a a2 : Option Nat), m[i]? = some a → (m.set i a2).count (some b) + (if a = some b then 1 else 0) = m.count (some b) + (if a2 = some b then 1 else 0) := by
      intro m
      induction m with
      | nil => intro i a a2 hh; simp at hh
      | cons x r ih =>
        intro i a a2 hh
        cases i with
        | zero =>
          rw [List.getElem?_cons_zero] at hh
          injection hh with hh
          subst hh
          rw [List.set_cons_zero, List.count_cons, List.count_cons]
          simp only [beq_iff_eq]
          split <;> split <;> omega
        | succ i =>
          rw [List.getElem?_cons_succ] at hh
          have := ih i a a2 hh
          rw [List.set_cons_succ, List.count_cons, List.count_cons]
          omega
    have hk2 := key (l.map Chunk.place) i c.place c2.place (by rw [List.getElem?_map, hi]; rfl)
    rw [List.map_set]
    rcases hp with e | ⟨b2, e, hge⟩
    · rw [e] at hk2 ⊢; omega
    · by_cases hbb : b2 = b
      · subst hbb
        have h0 : (l.map Chunk.place).count (some b2) = 0 := List.count_eq_zero.2 fun hm => by
          obtain ⟨x, hx, e2⟩ := List.mem_map.1 hm
          have := ((h.holds x hx).lt e2).2
          omega
        rw [e] at hk2 ⊢
        rw [if_pos rfl] at hk2
        split at hk2 <;> omega
      · rw [e] at hk2 ⊢
        rw [if_neg (show ¬ (some b2 = some b) from fun e3 => hbb (Option.some.inj e3))] at hk2
        split at hk2 <;> omega
theorem Mem.set_ (h : Mem w0 w l) (i : Nat) {g : Nat} {t : TypeId} {cs : Array Value} (hi : l[i]? = some (.blk g t cs)) (j : Nat) (u : Value) : Mem w0 (w.setCell ⟨g, j, none⟩ u) (l.set i (.blk g t (cs.setIfInBounds j u))) :=
  h.turn hi ((Below.refl _ _).setCell (p := ⟨g, j, none⟩) (h.get hi).1 u) (fun k ck b hk hne e => Below.heap_setCell _ _ _ _ (h.ne hk hi hne e rfl)) ⟨(h.get hi).1, (h.blk i hi).set_ j u⟩ (.inl rfl)
theorem Mem.setR (h : Mem w0 w l) (i : Nat) {e : TypeId} {s n g cap : Nat} {xs : List Value} (hi : l[i]? = some (.row e s (.slice (some ⟨g, 0, none⟩) n cap) n xs)) {j : Nat} (hj : j < n * s) (u : Value) : Mem w0 (w.setCell ⟨g, j, none⟩ u) (l.set i (.row e s (.slice (some ⟨g, 0, none⟩) n cap) n (xs.set j u))) :=
  h.turn hi ((Below.refl _ _).setCell (p := ⟨g, j, none⟩) (h.lt hi rfl).1 u) (fun k ck b hk hne e2 => Below.heap_setCell _ _ _ _ (h.ne hk hi hne e2 rfl)) (own_set (h.row i hi) hj u) (.inl rfl)
theorem Mem.grow (h : Mem w0 w l) (i : Nat) {e : TypeId} {s n n' : Nat} {v v' : Value} {xs xs' : List Value} (hi : l[i]? = some (.row e s v n xs)) (hg : w.grownBy w' v.ownBlock) (hat : v'.ownBlock = v.ownBlock ∨ v'.ownBlock = some w.heap.size) (ho : w'.ownsRow w0.heap.size e s v' n' xs') : Mem w0 w' (l.set i (.row e s v' n' xs')) :=
  h.turn hi ((Below.refl w0.heap.size w).grown hg h.size (fun k e2 => (h.lt hi e2).1)) (fun k ck b hk hne e2 => hg.block b (h.lt hk e2).2 (fun e3 => h.ne hk hi hne e2 (b2 := b) (by rw [e3]; rfl) rfl)) ho (by rcases hat with e2 | e2; exact .inl e2; exact .inr ⟨_, e2, Nat.le_refl _⟩)
theorem Mem.put (h : Mem w0 w l) (i : Nat) {k : TypeId} {b n n' : Nat} {D D' : DataW Value} (hi : l[i]? = some (.mp k b n D)) (hg : w.grownBy w' (some b)) (ho : w'.ownsMap Try.prog k heldM b n' D') : Mem w0 w' (l.set i (.mp k b n' D')) :=
  h.turn hi ((Below.refl w0.heap.size w).grown hg h.size (fun q e2 => by injection e2 with e2; subst e2; exact (h.get hi).1)) (fun q cq b2 hk hne e2 => hg.block b2 (h.lt hk e2).2 (fun e3 => h.ne hk hi hne e2 (b2 := b) rfl (by injection e3))) ⟨(h.get hi).1, ho⟩ (.inl rfl)
end
end Go.Proofs.Ytmafhaadcjgcbaa
end
section
/- pieces of memory put in another order; a model's nodes as pieces -/
namespace Go.Proofs.Ytmafhaadcjgcbaa
open Go Go.RowKit Go.Maps

theorem nodup_inj {α : Type} {l : List α} (h : l.Nodup) {i j : Nat} (hi : i < l.length) (hj : j < l.length) (e : l[i] = l[j]) : i = j := by
  rcases Nat.lt_trichotomy i j with h1 | h1 | h1
  · exact absurd e (List.pairwise_iff_getElem.1 h i j hi hj h1)
  · exact h1
  · exact absurd e.symm (List.pairwise_iff_getElem.1 h j i hj hi h1)
theorem count_le_one {b : Nat} : ∀ (m : List (Option Nat)), (∀ i j : Nat, m[i]? = some (some b) → m[j]? = some (some b) → i = j) → m.count (some b) ≤ 1
  | [], _ => by simp
  | a :: r, h => by
    have ih := count_le_one r (fun i j h1 h2 => by
      have := h (i + 1) (j + 1) (by rw [List.getElem?_cons_succ]; exact h1) (by rw [List.getElem?_cons_succ]; exact h2)
      omega)
    rw [List.count_cons]
    by_cases ha : a = some b
    · have h0 : r.count (some b) = 0 := List.count_eq_zero.2 fun hm => by
        obtain ⟨j, hj⟩ := List.mem_iff_getElem?.1 hm
        have := h 0 (j + 1) (by rw [List.getElem?_cons_zero, ha]) (by rw [List.getElem?_cons_succ]; exact hj)
        omega
      rw [h0, ha]; simp
    · simp [ha]; exact ih
section
variable {w0 w w' : World} {f f2 t l : List Chunk}
/-- pieces in another order, some left out; what stands behind them stays -/
theorem Mem.pick (h : Mem w0 w (f ++ t)) (is : List Nat) (f2 : List Chunk) (hn : is.Nodup) (he : is.map (fun i => f[i]?) = f2.map some) : Mem w0 w (f2 ++ t) := by
  have hlen : is.length = f2.length := by have := congrArg List.length he; simpa using this
  have hat : ∀ i (hi : i < f2.length), f[is[i]'(by omega)]? = some (f2[i]) := fun i hi => by
    have := congrArg (fun x => x[i]?) he
    simpa [List.getElem?_map, List.getElem?_eq_getElem (show i < is.length by omega), List.getElem?_eq_getElem hi] using this
  have hlt : ∀ i (hi : i < f2.length), is[i]'(by omega) < f.length := fun i hi => (List.getElem?_eq_some_iff.1 (hat i hi)).1
  let p : Nat → Nat := fun i => if hi : i < f2.length then is[i]'(by omega) else f.length + (i - f2.length)
  have hp : ∀ i, (f2 ++ t)[i]? = (f ++ t)[p i]? := fun i => by
    by_cases hi : i < f2.length
    · have e : p i = is[i]'(by omega) := dif_pos hi
      rw [e, List.getElem?_append_left (hlt i hi), hat i hi, List.getElem?_append_left hi, List.getElem?_eq_getElem hi]
    · have e : p i = f.length + (i - f2.length) := dif_neg hi
      rw [e, List.getElem?_append_right (by omega), List.getElem?_append_right (by omega)]
      congr 1; omega
  have hinj : ∀ i j, p i = p j → i = j := fun i j e => by
    by_cases hi : i < f2.length
    · have ei : p i = is[i]'(by omega) := dif_pos hi
      by_cases hj : j < f2.length
      · have ej : p j = is[j]'(by omega) := dif_pos hj
        rw [ei, ej] at e
        exact nodup_inj hn _ _ e
      · have ej : p j = f.length + (j - f2.length) := dif_neg hj
        have := hlt i hi
        omega
    · have ei : p i = f.length + (i - f2.length) := dif_neg hi
      by_cases hj : j < f2.length
      · have ej : p j = is[j]'(by omega) := dif_pos hj
        have := hlt j hj
        omega
      · have ej : p j = f.length + (j - f2.length) := dif_neg hj
        omega
  refine ⟨h.below, fun c hc => ?_, fun b => count_le_one _ fun i j h1 h2 => ?_⟩
  · obtain ⟨i, hi⟩ := List.mem_iff_getElem?.1 hc
    rw [hp i] at hi
    exact h.get hi
  · rw [List.getElem?_map, hp i] at h1
    rw [List.getElem?_map, hp j] at h2
    cases e1 : (f ++ t)[p i]? with
    | none => rw [e1] at h1; cases h1
    | some c1 =>
      cases e2 : (f ++ t)[p j]? with
      | none => rw [e2] at h2; cases h2
      | some c2 =>
        rw [e1] at h1; rw [e2] at h2
        injection h1 with h1; injection h2 with h2
        by_cases hij : p i = p j
        · exact hinj i j hij
        · exact absurd rfl (h.dis.ne e1 e2 hij h1 h2)
end
def LN.chunks (x : LN) : List Chunk := [.row 85 2 x.p x.n.props.length (x.n.props.flatMap propCells), .row 3 1 x.k x.n.kids.length (x.n.kids.map (Value.int .i64)), .row 82 2 x.r x.n.refs.length (x.n.refs.flatMap refCells)]
def rowsL (l : List LN) : List Chunk := l.flatMap LN.chunks
def modelC (v : Value) (l : List LN) : List Chunk := .row 38 7 v l.length (l.flatMap LN.cells) :: rowsL l
theorem rows_place : ∀ l : List LN, (rowsL l).map Chunk.place = allBlocks l
  | [] => rfl
  | x :: r => by
    have ih := rows_place r
    unfold rowsL allBlocks at ih ⊢
    rw [List.flatMap_cons, List.flatMap_cons, List.map_append, ih]; rfl
theorem model_place (v : Value) (l : List LN) : (modelC v l).map Chunk.place = v.ownBlock :: allBlocks l := by
  unfold modelC; rw [List.map_cons, rows_place]; rfl
section
variable {w0 w w' : World} {base : Nat} {v v' : Value} {lo : List LN} {x : LN} {l : List Chunk}
theorem OwnL.holds (h : OwnL w base x) : ∀ c ∈ x.chunks, c.Holds w base := fun c hc => by
  simp only [LN.chunks, List.mem_cons, List.not_mem_nil, or_false] at hc
  rcases hc with rfl | rfl | rfl
  · exact h.p
  · exact h.k
  · exact h.r
theorem OwnL.of (h : ∀ c ∈ x.chunks, c.Holds w base) : OwnL w base x :=
  ⟨h _ (List.mem_cons_self ..), h _ (List.mem_cons_of_mem _ (List.mem_cons_self ..)), h _ (List.mem_cons_of_mem _ (List.mem_cons_of_mem _ (List.mem_cons_self ..)))⟩
theorem OwnM.holds (h : OwnM w base v lo) : ∀ c ∈ modelC v lo, c.Holds w base := fun c hc => by
  rcases List.mem_cons.1 hc with rfl | hc
  · exact h.row
  · obtain ⟨x, hx, hc⟩ := List.mem_flatMap.1 hc
    exact (h.lists x hx).holds c hc
theorem OwnM.of (h : ∀ c ∈ modelC v lo, c.Holds w base) (hd : ApartC (modelC v lo)) : OwnM w base v lo :=
  ⟨h _ (List.mem_cons_self ..), fun x hx => OwnL.of fun c hc => h c (List.mem_cons_of_mem _ (List.mem_flatMap.2 ⟨x, hx, hc⟩)), fun b => by rw [← model_place]; exact hd b⟩
theorem Mem.moreM (h : Mem w0 w l) (hb : Below w.heap.size w w') (ho : OwnM w' w.heap.size v lo) : Mem w0 w' (l ++ modelC v lo) :=
  (h.more hb ho.holds (fun b => by rw [model_place]; exact ho.dis b)).perm List.perm_append_comm
theorem Mem.moreL (h : Mem w0 w l) (hb : Below w.heap.size w w') (ho : OwnL w' w.heap.size x) (hd : ∀ b, x.blocks.count (some b) ≤ 1) : Mem w0 w' (x.chunks ++ l) :=
  h.more hb ho.holds (fun b => hd b)
theorem Mem.ownM (h : Mem w0 w (l ++ modelC v lo)) : OwnM w w0.heap.size v lo :=
  OwnM.of (fun c hc => h.holds c (List.mem_append_right _ hc)) (h.dis.less (List.sublist_append_right _ _))
theorem Mem.frontM (h : Mem w0 w (l ++ modelC v lo)) : Mem w0 w l := h.less (List.sublist_append_left _ _)
/-- a node more, whose lists lie in memory ahead of all else -/
theorem Mem.pushM (h : Mem w0 w (x.chunks ++ (l ++ modelC v lo))) (hg : w.grownBy w' v.ownBlock) (hat : v'.ownBlock = v.ownBlock ∨ v'.ownBlock = some w.heap.size)
    (ho : w'.ownsRow w0.heap.size 38 7 v' (lo.length + 1) (lo.flatMap LN.cells ++ x.cells)) : Mem w0 w' (l ++ modelC v' (lo ++ [x])) := by
  have h1 : Mem w0 w (.row 38 7 v lo.length (lo.flatMap LN.cells) :: (x.chunks ++ (l ++ rowsL lo))) := by
    refine h.perm ?_
    have e : x.chunks ++ (l ++ modelC v lo) = (x.chunks ++ l) ++ modelC v lo := by rw [List.append_assoc]
    rw [e]
    refine (List.perm_middle (a := .row 38 7 v lo.length (lo.flatMap LN.cells)) (l₁ := x.chunks ++ l) (l₂ := rowsL lo)).trans ?_
    rw [List.append_assoc]
  have h2 := h1.grow 0 rfl hg hat ho
  rw [List.set_cons_zero] at h2
  refine h2.perm ?_
  have e : l ++ modelC v' (lo ++ [x]) = l ++ (.row 38 7 v' (lo.length + 1) (lo.flatMap LN.cells ++ x.cells) :: (rowsL lo ++ x.chunks)) := by
    unfold modelC rowsL
    simp
  rw [e]
  refine List.Perm.trans ?_ (List.perm_middle).symm
  refine List.Perm.cons _ ?_
  rw [← List.append_assoc l]
  exact List.perm_append_comm
end
end Go.Proofs.Ytmafhaadcjgcbaa
namespace Go.Proofs.Ytmafhaadcjgcbaa
open Go Go.RowKit Go.Maps
section
variable {w0 w w' : World} {f l : List Chunk} {c : Chunk} {v : Value} {lo : List LN}
theorem Mem.pick0 (h : Mem w0 w f) (is : List Nat) (f2 : List Chunk) (hn : is.Nodup) (he : is.map (fun i => f[i]?) = f2.map some) : Mem w0 w f2 := by
  have := Mem.pick (f := f) (t := []) (by simpa using h) is f2 hn he
  simpa using this
theorem Mem.allocG (h : Mem w0 w l) {g : Nat} (hg : w.heap.size = g) (cs : Array Value) (t : TypeId) : Mem w0 (w.alloc (.cells cs t)) (.blk g t cs :: l) := by
  subst hg; exact h.alloc cs t
theorem Mem.allocI (h : Mem w0 w l) {g : Nat} (hg : w.heap.size = g) (x : Int) : Mem w0 (w.alloc (.cells #[.int .i64 x] 3)) (.row 3 1 (.slice (some ⟨g, 0, none⟩) 1 1) 1 [.int .i64 x] :: l) := by
  subst hg
  refine h.one ((Below.refl w.heap.size w).alloc (Nat.le_refl _) _) ?_
  exact own_of_blk (l := [x]) (Blk.new _ _ _) (Nat.le_refl _) (by unfold maxLen; simp)
theorem Mem.allocM (h : Mem w0 w l) {g : Nat} (hg : w.heap.size = g) (k : TypeId) : Mem w0 (w.alloc (.map #[] 0)) (.mp k g 0 (.map []) :: l) := by
  subst hg
  exact h.one ((Below.refl w.heap.size w).alloc (Nat.le_refl _) _) ⟨Nat.le_refl _, World.ownsMap_made _ _ _ _⟩
/-- a struct of seven cells stored over a block of seven -/
theorem Mem.store7 (h : Mem w0 w l) (i : Nat) {g : Nat} {t : TypeId} {a0 a1 a2 a3 a4 a5 a6 b0 b1 b2 b3 b4 b5 b6 : Value} (hi : l[i]? = some (.blk g t #[a0, a1, a2, a3, a4, a5, a6])) :
    Mem w0 (((((((w.setCell ⟨g, 0, none⟩ b0).setCell ⟨g, 1, none⟩ b1).setCell ⟨g, 2, none⟩ b2).setCell ⟨g, 3, none⟩ b3).setCell ⟨g, 4, none⟩ b4).setCell ⟨g, 5, none⟩ b5).setCell ⟨g, 6, none⟩ b6) (l.set i (.blk g t #[b0, b1, b2, b3, b4, b5, b6])) := by
  have e : ∀ b, b ≠ g → (((((((w.setCell ⟨g, 0, none⟩ b0).setCell ⟨g, 1, none⟩ b1).setCell ⟨g, 2, none⟩ b2).setCell ⟨g, 3, none⟩ b3).setCell ⟨g, 4, none⟩ b4).setCell ⟨g, 5, none⟩ b5).setCell ⟨g, 6, none⟩ b6).heap[b]? = w.heap[b]? := fun b h =>
    (Below.heap_setCell _ _ _ _ h).trans ((Below.heap_setCell _ _ _ _ h).trans ((Below.heap_setCell _ _ _ _ h).trans ((Below.heap_setCell _ _ _ _ h).trans ((Below.heap_setCell _ _ _ _ h).trans ((Below.heap_setCell _ _ _ _ h).trans (Below.heap_setCell _ _ _ _ h))))))
  have hg := (h.get hi).1
  refine h.turn hi ?_ (fun k ck b hk hne e2 => e b (h.ne hk hi hne e2 rfl)) ⟨hg, ?_⟩ (.inl rfl)
  · exact (((((((Below.refl _ w).setCell (p := ⟨g, 0, none⟩) hg b0).setCell (p := ⟨g, 1, none⟩) hg b1).setCell (p := ⟨g, 2, none⟩) hg b2).setCell (p := ⟨g, 3, none⟩) hg b3).setCell (p := ⟨g, 4, none⟩) hg b4).setCell (p := ⟨g, 5, none⟩) hg b5).setCell (p := ⟨g, 6, none⟩) hg b6
  · simpa using (((((((h.blk i hi).set_ 0 b0).set_ 1 b1).set_ 2 b2).set_ 3 b3).set_ 4 b4).set_ 5 b5).set_ 6 b6
theorem Mem.notin (h : Mem w0 w (f ++ modelC v lo)) {b : Nat} (hc : c ∈ f) (e : c.place = some b) : some b ∉ (v.ownBlock :: allBlocks lo) := fun hm => by
  rw [← model_place] at hm
  have hd := h.dis b
  rw [List.map_append, List.count_append] at hd
  have h1 := List.count_pos_iff.2 (place_mem hc e)
  have h2 := List.count_pos_iff.2 hm
  omega
/-- a call that writes in the model alone -/
theorem Mem.besideM (h : Mem w0 w (f ++ modelC v lo)) (hk : KeepO (fun b => some b ∈ (v.ownBlock :: allBlocks lo)) w w') : Mem w0 w' f :=
  ⟨h.below.trans (hk.toBelow h.size (fun b hb => (h.ownM.lt b hb).1)), fun c hc => (h.holds c (List.mem_append_left _ hc)).keep fun b e => hk.block b ((h.holds c (List.mem_append_left _ hc)).lt e).2 (h.notin hc e), h.frontM.dis⟩
end
theorem set_same {α : Type} {l : List α} {i : Nat} {x : α} (h : l[i]? = some x) : l.set i x = l := by
  obtain ⟨hi, e⟩ := List.getElem?_eq_some_iff.1 h
  subst e
  exact List.set_getElem_self hi
end Go.Proofs.Ytmafhaadcjgcbaa
end
