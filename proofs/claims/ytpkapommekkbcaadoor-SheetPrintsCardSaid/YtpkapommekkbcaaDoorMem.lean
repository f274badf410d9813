/- what a call owns, piece by piece: blocks known whole, rows, maps; each effect one law -/
import Derived.Test.YtpkapommekkbcaaDoorMut
import Derived.Test.YtpkapommekkbcaaDoorMapJ
set_option linter.unusedSimpArgs false
set_option linter.unusedVariables false
namespace Go.Proofs.YtpkapommekkbcaaDoor
open Go Go.RowKit Go.Maps

inductive Chunk where
  | blk (g : Nat) (t : TypeId) (cs : Array Value)
  | row (e : TypeId) (size : Nat) (v : Value) (n : Nat) (xs : List Value)
  | mp (k : TypeId) (b n : Nat) (D : DataW Value)
def Chunk.place : Chunk → Option Nat
  | .blk g _ _ => some g
  | .row _ _ v _ _ => v.ownBlock
  | .mp _ b _ _ => some b
def Chunk.Holds (w : World) (base : Nat) : Chunk → Prop
  | .blk g t cs => base ≤ g ∧ Blk w g t cs
  | .row e s v n xs => w.ownsRow base e s v n xs
  | .mp k b n D => base ≤ b ∧ w.ownsMap Tryd.prog k heldM b n D
section
variable {w w' : World} {base base' : Nat} {c : Chunk}
theorem Chunk.Holds.lt (h : c.Holds w base) {b : Nat} (e : c.place = some b) : base ≤ b ∧ b < w.heap.size := by
  cases c with
  | blk g t cs => injection e with e; subst e; exact ⟨h.1, h.2.lt⟩
  | row _ _ v _ _ => exact World.ownsRow.lt h b e
  | mp k g n D => injection e with e; subst e; exact ⟨h.1, h.2.lt⟩
theorem Chunk.Holds.keep (h : c.Holds w base) (hk : ∀ b, c.place = some b → w'.heap[b]? = w.heap[b]?) : c.Holds w' base := by
  cases c with
  | blk g t cs => exact ⟨h.1, (hk g rfl).trans h.2⟩
  | row _ _ v _ _ => exact own_keep (w := w) h hk
  | mp k g n D =>
    obtain ⟨h1, es, clock, hb, r⟩ := h
    exact ⟨h1, es, clock, (hk g rfl).trans hb, r⟩
theorem Chunk.Holds.weaken (h : c.Holds w base) (hb : base' ≤ base) : c.Holds w base' := by
  cases c with
  | blk g t cs => exact ⟨Nat.le_trans hb h.1, h.2⟩
  | row _ _ v _ _ => exact own_weaken (w := w) h hb
  | mp k g n D => exact ⟨Nat.le_trans hb h.1, h.2⟩
end
def ApartC (l : List Chunk) : Prop := ∀ b, (l.map Chunk.place).count (some b) ≤ 1
structure Mem (w0 w : World) (l : List Chunk) : Prop where
  below : Below w0.heap.size w0 w
  holds : ∀ c ∈ l, c.Holds w w0.heap.size
  dis : ApartC l
section
variable {w0 w w' : World} {l l2 : List Chunk} {c c2 : Chunk}
theorem Mem.start (w : World) : Mem w w [] := ⟨Below.refl _ _, fun _ h => by simp at h, fun _ => by simp⟩
theorem Mem.size (h : Mem w0 w l) : w0.heap.size ≤ w.heap.size := h.below.size
theorem Mem.get (h : Mem w0 w l) {i : Nat} (hi : l[i]? = some c) : c.Holds w w0.heap.size := h.holds c (List.mem_of_getElem? hi)
theorem Mem.blk (h : Mem w0 w l) (i : Nat) {g : Nat} {t : TypeId} {cs : Array Value} (hi : l[i]? = some (.blk g t cs)) : Blk w g t cs := (h.get hi).2
theorem Mem.row (h : Mem w0 w l) (i : Nat) {e : TypeId} {s n : Nat} {v : Value} {xs : List Value} (hi : l[i]? = some (.row e s v n xs)) : w.ownsRow w0.heap.size e s v n xs := h.get hi
theorem Mem.map (h : Mem w0 w l) (i : Nat) {k : TypeId} {b n : Nat} {D : DataW Value} (hi : l[i]? = some (.mp k b n D)) : w.ownsMap Tryd.prog k heldM b n D := (h.get hi).2
theorem Mem.lt (h : Mem w0 w l) {i : Nat} (hi : l[i]? = some c) {b : Nat} (e : c.place = some b) : w0.heap.size ≤ b ∧ b < w.heap.size := (h.get hi).lt e
/-- two pieces at two places lie in two blocks -/
theorem ApartC.ne (h : ApartC l) {i j : Nat} (hi : l[i]? = some c) (hj : l[j]? = some c2) (hij : i ≠ j) {b b2 : Nat} (e : c.place = some b) (e2 : c2.place = some b2) : b ≠ b2 := by
  intro e3
  subst e3
  have hc := h b
  have hil : i < l.length := (List.getElem?_eq_some_iff.1 hi).1
  have hjl : j < l.length := (List.getElem?_eq_some_iff.1 hj).1
  have key : ∀ (m : List (Option Nat)) (i j : Nat), i < j → ∀ (hj : j < m.length), m[i]? = some (some b) → m[j]? = some (some b) → 2 ≤ m.count (some b) := by
    intro m
    induction m with
    | nil => intro i j _ hj; simp at hj
    | cons a r ih =>
      intro i j hij hj h1 h2
      cases j with
      | zero => omega
      | succ j =>
        rw [List.getElem?_cons_succ] at h2
        cases i with
        | zero =>
          rw [List.getElem?_cons_zero] at h1
          injection h1 with h1
          subst h1
          rw [List.count_cons_self]
          have := List.count_pos_iff.2 (List.mem_of_getElem? h2)
          omega
        | succ i =>
          rw [List.getElem?_cons_succ] at h1
          have := ih i j (by omega) (by simpa using hj) h1 h2
          rw [List.count_cons]; omega
  have h1 : (l.map Chunk.place)[i]? = some (some b) := by rw [List.getElem?_map, hi]; simp [e]
  have h2 : (l.map Chunk.place)[j]? = some (some b) := by rw [List.getElem?_map, hj]; simp [e2]
  rcases Nat.lt_or_ge i j with hlt | hge
  · have := key _ i j hlt (by simpa using hjl) h1 h2; omega
  · have := key _ j i (by omega) (by simpa using hil) h2 h1; omega
theorem Mem.ne (h : Mem w0 w l) {i j : Nat} (hi : l[i]? = some c) (hj : l[j]? = some c2) (hij : i ≠ j) {b b2 : Nat} (e : c.place = some b) (e2 : c2.place = some b2) : b ≠ b2 := h.dis.ne hi hj hij e e2
theorem ApartC.less (h : ApartC l) (hs : l2.Sublist l) : ApartC l2 := fun b => Nat.le_trans ((hs.map Chunk.place).count_le _) (h b)
theorem Mem.less (h : Mem w0 w l) (hs : l2.Sublist l) : Mem w0 w l2 := ⟨h.below, fun c hc => h.holds c (hs.subset hc), h.dis.less hs⟩
/-- a call that leaves all that is there -/
theorem Mem.call (h : Mem w0 w l) (hb : Below w.heap.size w w') : Mem w0 w' l :=
  ⟨h.below.trans (hb.mono h.size), fun c hc => (h.holds c hc).keep fun b e => hb.block b ((h.holds c hc).lt e).2, h.dis⟩
theorem Mem.drew (h : Mem w0 w l) : Mem w0 w.drew l := h.call (Below.refl _ _).drew
/-- a call that leaves all that is there, and gives new pieces -/
theorem Mem.more (h : Mem w0 w l) (hb : Below w.heap.size w w') (hn : ∀ c ∈ l2, c.Holds w' w.heap.size) (hd : ApartC l2) : Mem w0 w' (l2 ++ l) := by
  have h1 := h.call hb
  refine ⟨h1.below, fun c hc => ?_, fun b => ?_⟩
  · rcases List.mem_append.1 hc with hc | hc
    · exact (hn c hc).weaken h.size
    · exact h1.holds c hc
  · rw [List.map_append, List.count_append]
    by_cases hb2 : some b ∈ l2.map Chunk.place
    · obtain ⟨c, hc, e⟩ := List.mem_map.1 hb2
      have hge := ((hn c hc).lt e).1
      have h0 : (l.map Chunk.place).count (some b) = 0 := List.count_eq_zero.2 fun hm => by
        obtain ⟨c2, hc2, e2⟩ := List.mem_map.1 hm
        have := ((h.holds c2 hc2).lt e2).2
        omega
      have := hd b
      omega
    · have := h.dis b
      rw [List.count_eq_zero.2 hb2]; omega
theorem Mem.one (h : Mem w0 w l) (hb : Below w.heap.size w w') (hn : c.Holds w' w.heap.size) : Mem w0 w' (c :: l) :=
  h.more (l2 := [c]) hb (fun x hx => by rw [List.mem_singleton.1 hx]; exact hn) (fun b => by simp only [List.map_cons, List.map_nil, List.count_cons, List.count_nil]; split <;> omega)
theorem Mem.alloc (h : Mem w0 w l) (cs : Array Value) (t : TypeId) : Mem w0 (w.alloc (.cells cs t)) (.blk w.heap.size t cs :: l) :=
  h.one ((Below.refl w.heap.size w).alloc (Nat.le_refl _) _) ⟨Nat.le_refl _, Blk.new _ _ _⟩
/-- a piece that changes, all others stay -/
theorem Mem.turn (h : Mem w0 w l) {i : Nat} (hi : l[i]? = some c) (hb : Below w0.heap.size w w') (hk : ∀ j cj b, l[j]? = some cj → j ≠ i → cj.place = some b → w'.heap[b]? = w.heap[b]?) (hn : c2.Holds w' w0.heap.size) (hp : c2.place = c.place ∨ ∃ b, c2.place = some b ∧ w.heap.size ≤ b) : Mem w0 w' (l.set i c2) := by
  have hil : i < l.length := (List.getElem?_eq_some_iff.1 hi).1
  refine ⟨h.below.trans hb, fun x hx => ?_, fun b => ?_⟩
  · obtain ⟨j, hj, hjx⟩ := List.mem_iff_getElem.1 hx
    by_cases hij : j = i
    · subst hij; rw [List.getElem_set_self] at hjx; rw [← hjx]; exact hn
    · rw [List.getElem_set_ne (Ne.symm hij)] at hjx
      have hj2 : l[j]? = some x := by rw [List.getElem?_eq_getElem (by simpa using hj), hjx]
      exact (h.get hj2).keep fun b e => hk j x b hj2 hij e
  · have hd := h.dis b
    have key : ∀ (m : List (Option Nat)) (i : Nat) (a a2 : Option Nat), m[i]? = some a → (m.set i a2).count (some b) + (if a = some b then 1 else 0) = m.count (some b) + (if a2 = some b then 1 else 0) := by
      intro m
      induction m with
      | nil => intro i a a2 hh; simp at hh
      | cons x r ih =>
        intro i a a2 hh
        cases i with
        | zero =>
          rw [List.getElem?_cons_zero] at hh
          injection hh with hh
          subst hh
          rw [List.set_cons_zero, List.count_cons, List.count_cons]
          simp only [beq_iff_eq]
          split <;> split <;> omega
        | succ i =>
          rw [List.getElem?_cons_succ] at hh
          have := ih i a a2 hh
          rw [List.set_cons_succ, List.count_cons, List.count_cons]
          omega
    have hk2 := key (l.map Chunk.place) i c.place c2.place (by rw [List.getElem?_map, hi]; rfl)
    rw [List.map_set]
    rcases hp with e | ⟨b2, e, hge⟩
    · rw [e] at hk2 ⊢; omega
    · by_cases hbb : b2 = b
      · subst hbb
        have h0 : (l.map Chunk.place).count (some b2) = 0 := List.count_eq_zero.2 fun hm => by
          obtain ⟨x, hx, e2⟩ := List.mem_map.1 hm
          have := ((h.holds x hx).lt e2).2
          omega
        rw [e] at hk2 ⊢
        rw [if_pos rfl] at hk2
        split at hk2 <;> omega
      · rw [e] at hk2 ⊢
        rw [if_neg (show ¬ (some b2 = some b) from fun e3 => hbb (Option.some.inj e3))] at hk2
        split at hk2 <;> omega
theorem Mem.set_ (h : Mem w0 w l) (i : Nat) {g : Nat} {t : TypeId} {cs : Array Value} (hi : l[i]? = some (.blk g t cs)) (j : Nat) (u : Value) : Mem w0 (w.setCell ⟨g, j, none⟩ u) (l.set i (.blk g t (cs.setIfInBounds j u))) :=
  h.turn hi ((Below.refl _ _).setCell (p := ⟨g, j, none⟩) (h.get hi).1 u) (fun k ck b hk hne e => Below.heap_setCell _ _ _ _ (h.ne hk hi hne e rfl)) ⟨(h.get hi).1, (h.blk i hi).set_ j u⟩ (.inl rfl)
theorem Mem.grow (h : Mem w0 w l) (i : Nat) {e : TypeId} {s n n' : Nat} {v v' : Value} {xs xs' : List Value} (hi : l[i]? = some (.row e s v n xs)) (hg : w.grownBy w' v.ownBlock) (hat : v'.ownBlock = v.ownBlock ∨ v'.ownBlock = some w.heap.size) (ho : w'.ownsRow w0.heap.size e s v' n' xs') : Mem w0 w' (l.set i (.row e s v' n' xs')) :=
  h.turn hi ((Below.refl w0.heap.size w).grown hg h.size (fun k e2 => (h.lt hi e2).1)) (fun k ck b hk hne e2 => hg.block b (h.lt hk e2).2 (fun e3 => h.ne hk hi hne e2 (b2 := b) (by rw [e3]; rfl) rfl)) ho (by rcases hat with e2 | e2; exact .inl e2; exact .inr ⟨_, e2, Nat.le_refl _⟩)
theorem Mem.put (h : Mem w0 w l) (i : Nat) {k : TypeId} {b n n' : Nat} {D D' : DataW Value} (hi : l[i]? = some (.mp k b n D)) (hg : w.grownBy w' (some b)) (ho : w'.ownsMap Tryd.prog k heldM b n' D') : Mem w0 w' (l.set i (.mp k b n' D')) :=
  h.turn hi ((Below.refl w0.heap.size w).grown hg h.size (fun q e2 => by injection e2 with e2; subst e2; exact (h.get hi).1)) (fun q cq b2 hk hne e2 => hg.block b2 (h.lt hk e2).2 (fun e3 => h.ne hk hi hne e2 (b2 := b) rfl (by injection e3))) ⟨(h.get hi).1, ho⟩ (.inl rfl)
end
end Go.Proofs.YtpkapommekkbcaaDoor
