import Derived.Test.YtgcbnndbeoekgaaDoorWebM
import Derived.Test.YtgcbnndbeoekgaaDoorMapI
set_option linter.unusedSimpArgs false
set_option linter.unusedVariables false
/- the program's web against its classes, in plain Lean; the web in memory whole -/
namespace Go.Proofs.YtgcbnndbeoekgaaDoor
open Go Go.RowKit Go.Maps

def tmV (o : Option Nat) : Int := match o with | some t => t | none => -1
def ndOf (x : PN) : Nd := if x.hole = 0 then .app x.nm x.args else .hole x.hole
/-- nodes stand for classes -/
structure PW (W : WebT) (r : Nat → Nat) (tm : Nat → Option Nat) (lo : Nat → Nat) (l : List PN) (hm : List (Nat × Nat)) : Prop where
  len : W.n = l.length
  nd : ∀ i (h : i < l.length), W.nd i = ndOf l[i]
  na : ∀ i (h : i < l.length), l[i].na = l[i].args.length
  uf : ∃ d, UF d l.length (upOf l) r
  out : ∀ i, l.length ≤ i → r i = i
  term : ∀ i (h : i < l.length), r i = i → l[i].term = tmV (tm i)
  low : ∀ i (h : i < l.length), r i = i → l[i].low = lo i
  holes : ∀ h k, (h, k) ∈ hm ↔ k < W.n ∧ W.nd k = .hole h
/-- alike but for ways up, marks and sizes -/
def Same0 (l l' : List PN) : Prop := l'.length = l.length ∧ ∀ i (h : i < l.length) (h' : i < l'.length), l'[i] = { l[i] with up := l'[i].up, seen := l'[i].seen, size := l'[i].size }
theorem Same0.refl (l : List PN) : Same0 l l := ⟨rfl, fun _ _ _ => rfl⟩
theorem Same0.trans {a b c : List PN} (h : Same0 a b) (h' : Same0 b c) : Same0 a c := ⟨h'.1.trans h.1, fun i ha hc => by
  have hb : i < b.length := by rw [h.1]; exact ha
  rw [h'.2 i hb hc, h.2 i ha hb]⟩
theorem Ups.same0 {l l' : List PN} (h : Ups l l') : Same0 l l' := ⟨h.1, fun i a b => by rw [h.2 i a b]⟩
section
variable {W : WebT} {r : Nat → Nat} {tm : Nat → Option Nat} {lo : Nat → Nat} {l l' : List PN} {hm : List (Nat × Nat)}
theorem Same0.nd (h : Same0 l l') {i : Nat} (hi : i < l.length) (hi' : i < l'.length) : ndOf l'[i] = ndOf l[i] := by rw [h.2 i hi hi']; rfl
theorem PW.same (h : PW W r tm lo l hm) (hs : Same0 l l') (hu : ∃ d, UF d l.length (upOf l') r) : PW W r tm lo l' hm := by
  have hl := hs.1
  refine ⟨h.len.trans hl.symm, fun i hi => ?_, fun i hi => ?_, by rw [hl]; exact hu, fun i hi => h.out i (by omega), fun i hi hr => ?_, fun i hi hr => ?_, h.holes⟩
  · rw [h.nd i (by omega), hs.nd]
  · rw [hs.2 i (by omega) hi]; exact h.na i (by omega)
  · rw [hs.2 i (by omega) hi]; exact h.term i (by omega) hr
  · rw [hs.2 i (by omega) hi]; exact h.low i (by omega) hr
theorem PW.app (h : PW W r tm lo l hm) {i : Nat} (hi : i < l.length) (h0 : l[i].hole = 0) : W.nd i = .app l[i].nm l[i].args := by rw [h.nd i hi]; exact if_pos h0
theorem PW.hole_ (h : PW W r tm lo l hm) {i : Nat} (hi : i < l.length) (h0 : 0 < l[i].hole) : W.nd i = .hole l[i].hole := by rw [h.nd i hi]; exact if_neg (by omega)
theorem PW.of_app (h : PW W r tm lo l hm) {i : Nat} (hi : i < l.length) {nm : ByteArray} {ks : List Nat} (e : W.nd i = .app nm ks) : l[i].nm = nm ∧ l[i].args = ks ∧ l[i].na = ks.length := by
  have h1 := h.nd i hi
  rw [e] at h1
  unfold ndOf at h1
  by_cases h0 : l[i].hole = 0
  · rw [if_pos h0] at h1
    injection h1 with h1 h2
    exact ⟨h1.symm, h2.symm, by rw [h.na i hi, h2]⟩
  · rw [if_neg h0] at h1; cases h1
/-- two classes become one: y's nodes are hung under x -/
theorem PW.unite (h : PW W r tm lo l hm) {x y : Nat} (hx : x < l.length) (hy : y < l.length) (rx : r x = x) (ry : r y = y) (hxy : x ≠ y) (hl : l'.length = l.length)
    (hyv : ∀ h' : y < l'.length, l'[y] = { l[y] with up := x }) (hxv : ∀ h' : x < l'.length, l'[x] = { l[x] with term := tmV (uniT tm x y x), low := uniL lo x y x })
    (ho : ∀ i (h : i < l.length) (h' : i < l'.length), i ≠ x → i ≠ y → l'[i] = l[i]) : PW W (uniR r x y) (uniT tm x y) (uniL lo x y) l' hm := by
  have hx' : x < l'.length := by omega
  have hy' : y < l'.length := by omega
  have key : ∀ i (h : i < l.length) (h' : i < l'.length), ndOf l'[i] = ndOf l[i] ∧ l'[i].na = l[i].na ∧ l'[i].args = l[i].args ∧ (i ≠ y → l'[i].up = l[i].up) := by
    intro i hi hi'
    by_cases e1 : i = x
    · subst e1; rw [hxv hi']; exact ⟨rfl, rfl, rfl, fun _ => rfl⟩
    · by_cases e2 : i = y
      · subst e2; rw [hyv hi']; exact ⟨rfl, rfl, rfl, fun e => absurd rfl e⟩
      · rw [ho i hi hi' e1 e2]; exact ⟨rfl, rfl, rfl, fun _ => rfl⟩
  have roots : ∀ i, uniR r x y i = i → i = x ∨ (i ≠ x ∧ i ≠ y ∧ r i = i) := by
    intro i e
    unfold uniR at e
    by_cases e1 : r i = y
    · rw [if_pos e1] at e; exact .inl e.symm
    · rw [if_neg e1] at e
      by_cases e2 : i = x
      · exact .inl e2
      · exact .inr ⟨e2, fun e3 => e1 (by rw [e3]; exact ry), e⟩
  refine ⟨h.len.trans hl.symm, fun i hi => ?_, fun i hi => ?_, ?_, fun i hi => by
    have h1 := h.out i (by omega)
    unfold uniR
    rw [if_neg (by rw [h1]; omega), h1], fun i hi hr => ?_, fun i hi hr => ?_, h.holes⟩
  · rw [(key i (by omega) hi).1]; exact h.nd i (by omega)
  · rw [(key i (by omega) hi).2.1, (key i (by omega) hi).2.2.1]; exact h.na i (by omega)
  · obtain ⟨d, hd⟩ := h.uf
    rw [hl]
    exact hd.hang (a := y) (b := x) hy hx ry rx (Ne.symm hxy) (by rw [upOf_at hy', hyv hy']) fun j hj => by
      by_cases hjl : j < l.length
      · rw [upOf_at (show j < l'.length by omega), upOf_at hjl]; exact (key j hjl (by omega)).2.2.2 hj
      · simp [upOf, List.getElem?_eq_none (show l'.length ≤ j by omega), List.getElem?_eq_none (show l.length ≤ j by omega)]
  · rcases roots i hr with e | ⟨e1, e2, e3⟩
    · subst e; rw [hxv hi]
    · rw [ho i (by omega) hi e1 e2, h.term i (by omega) e3]
      show _ = tmV (uniT tm x y i)
      unfold uniT; rw [if_neg e1]
  · rcases roots i hr with e | ⟨e1, e2, e3⟩
    · subst e; rw [hxv hi]
    · rw [ho i (by omega) hi e1 e2, h.low i (by omega) e3]
      show _ = uniL lo x y i
      unfold uniL; rw [if_neg e1]
end
/-- how many stand for themselves -/
def rootsN (n : Nat) (r : Nat → Nat) : Nat := ((List.range n).filter fun i => r i == i).length
theorem rootsN_le (n : Nat) (r : Nat → Nat) : rootsN n r ≤ n := by
  unfold rootsN
  have := List.length_filter_le (fun i => r i == i) (List.range n)
  rw [List.length_range] at this
  exact this
theorem filter_less {α : Type} {p q : α → Bool} (h : ∀ a, q a = true → p a = true) : ∀ (l : List α), (l.filter q).length ≤ (l.filter p).length
  | [] => Nat.le_refl _
  | a :: l => by
    have := filter_less h l
    by_cases h1 : q a = true
    · rw [List.filter_cons_of_pos h1, List.filter_cons_of_pos (h a h1)]; simp only [List.length_cons]; omega
    · rw [List.filter_cons_of_neg h1]
      by_cases h2 : p a = true
      · rw [List.filter_cons_of_pos h2]; simp only [List.length_cons]; omega
      · rw [List.filter_cons_of_neg h2]; exact this
theorem filter_lt {α : Type} {p q : α → Bool} (h : ∀ a, q a = true → p a = true) {y : α} (h1 : p y = true) (h2 : ¬ q y = true) : ∀ (l : List α), y ∈ l → (l.filter q).length < (l.filter p).length
  | [], hy => by cases hy
  | a :: l, hy => by
    have h0 := filter_less h l
    rcases List.mem_cons.1 hy with e | e
    · subst e
      rw [List.filter_cons_of_neg h2, List.filter_cons_of_pos h1]; simp only [List.length_cons]; omega
    · have := filter_lt h h1 h2 l e
      by_cases h3 : q a = true
      · rw [List.filter_cons_of_pos h3, List.filter_cons_of_pos (h a h3)]; simp only [List.length_cons]; omega
      · rw [List.filter_cons_of_neg h3]
        by_cases h4 : p a = true
        · rw [List.filter_cons_of_pos h4]; simp only [List.length_cons]; omega
        · rw [List.filter_cons_of_neg h4]; exact this
theorem rootsN_lt {n : Nat} {r r' : Nat → Nat} (h : ∀ i, i < n → r' i = i → r i = i) {y : Nat} (hy : y < n) (h1 : r y = y) (h2 : r' y ≠ y) : rootsN n r' < rootsN n r := by
  have e : ∀ r' : Nat → Nat, rootsN n r' = ((List.range n).filter fun i => decide (i < n) && (r' i == i)).length := fun r' => by
    unfold rootsN
    congr 1
    refine List.filter_congr fun i hi => ?_
    have := List.mem_range.1 hi
    simp [this]
  rw [e r, e r']
  exact filter_lt (fun a ha => by
    simp only [Bool.and_eq_true, decide_eq_true_eq, beq_iff_eq] at ha ⊢
    exact ⟨ha.1, h a ha.1 ha.2⟩) (by simp [hy, h1]) (by simp [h2]) _ (List.mem_range.2 hy)
theorem rootsN_uni {n : Nat} {r : Nat → Nat} {x y : Nat} (hy : y < n) (rx : r x = x) (ry : r y = y) (hxy : x ≠ y) : rootsN n (uniR r x y) < rootsN n r := by
  refine rootsN_lt (fun i _ e => ?_) hy ry ?_
  · unfold uniR at e
    by_cases e1 : r i = y
    · rw [if_pos e1] at e; rw [← e]; exact rx
    · rw [if_neg e1] at e; exact e
  · unfold uniR; rw [if_pos ry]; exact hxy

/-! ### The web in memory -/
def holeVals (hm : List (Nat × Nat)) : List (Int × Value) := hm.map fun p => ((p.1 : Int), .int .i64 p.2)
structure WebAt (w : World) (B p : Nat) (lv : Value) (mb : Nat) (tv : Value) (l : List PN) (hm : List (Nat × Nat)) (td : List (Nat × Nat)) : Prop where
  blk : Blk w p 86 #[lv, .map (some mb), tv]
  nodes : NodesM w B lv l
  holes : ∃ D, w.ownsMap Tryd.prog 3 heldM mb hm.length D ∧ MapV D (holeVals hm)
  todo : w.ownsRow B 98 2 tv td.length (td.flatMap pairCells)
  low : B ≤ p ∧ B ≤ mb
section
variable {w w' : World} {B p mb : Nat} {lv tv : Value} {l : List PN} {hm td : List (Nat × Nat)}
theorem map_ne_row {w : World} {b n : Nat} {D : DataW Value} {base : Nat} {e : TypeId} {size : Nat} {v : Value} {m : Nat} {xs : List Value} (h : w.ownsMap Tryd.prog 3 heldM b n D) (h' : w.ownsRow base e size v m xs) : v.ownBlock ≠ some b := by
  obtain ⟨es, clock, hb, _⟩ := h
  rcases h'.2 with ⟨rfl, _⟩ | ⟨g, cap, cur, rfl, _, hh, _⟩
  · simp [Value.ownBlock]
  · intro he
    simp [Value.ownBlock] at he
    subst he
    rw [hb] at hh
    cases hh
theorem map_ne_blk {w : World} {b n : Nat} {D : DataW Value} {g : Nat} {t : TypeId} {cs : Array Value} (h : w.ownsMap Tryd.prog 3 heldM b n D) (h' : Blk w g t cs) : b ≠ g := by
  obtain ⟨es, clock, hb, _⟩ := h
  intro e
  subst e
  unfold Blk at h'
  rw [hb] at h'
  cases h'
/-- behind what lets all stand but one block apart from the web's -/
theorem WebAt.kept (h : WebAt w B p lv mb tv l hm td) {row : Option Nat} (hg : w.grownBy w' row) (h1 : ∀ b, row = some b → b ≠ p ∧ b ≠ mb ∧ lv.ownBlock ≠ some b ∧ tv.ownBlock ≠ some b ∧ ∀ x ∈ l, x.av.ownBlock ≠ some b) : WebAt w' B p lv mb tv l hm td := by
  obtain ⟨D, hD, hV⟩ := h.holes
  refine ⟨h.blk.grown hg (fun e => (h1 p e.symm).1 rfl), h.nodes.kept hg fun b e => ⟨(h1 b e).2.2.1, (h1 b e).2.2.2.2⟩, ⟨D, hD.kept hg (fun e => (h1 mb e.symm).2.1 rfl), hV⟩, h.todo.kept hg ?_, h.low⟩
  cases hb : tv.ownBlock with
  | none => exact .inl rfl
  | some b => exact .inr fun e => (h1 b e.symm).2.2.2.1 hb
theorem WebAt.still (h : WebAt w B p lv mb tv l hm td) (hg : w.grownBy w' none) : WebAt w' B p lv mb tv l hm td := h.kept hg (fun b e => by cases e)
theorem WebAt.alloc (h : WebAt w B p lv mb tv l hm td) (o : Obj) : WebAt (w.alloc o) B p lv mb tv l hm td := h.still (World.grownBy_alloc w o none)
theorem WebAt.below (h : WebAt w B p lv mb tv l hm td) (hb : Below w.heap.size w w') : WebAt w' B p lv mb tv l hm td := h.still ⟨hb.os, hb.tape, hb.output, hb.size, fun k hk _ => hb.block k hk⟩
theorem WebAt.drewN (h : WebAt w B p lv mb tv l hm td) (n : Nat) : WebAt (w.drewN n) B p lv mb tv l hm td := ⟨h.blk, h.nodes.drewN n, h.holes, h.todo, h.low⟩
/-- the nodes' row alone has changed -/
theorem WebAt.nodesOf {l' : List PN} (h : WebAt w B p lv mb tv l hm td) (hg : w.grownBy w' lv.ownBlock) (hn : NodesM w' B lv l') : WebAt w' B p lv mb tv l' hm td := by
  obtain ⟨D, hD, hV⟩ := h.holes
  have hr := h.nodes.row
  refine ⟨h.blk.grown hg (fun e => own_ne_blkX hr h.blk (by decide) e.symm), hn, ⟨D, hD.kept hg (fun e => map_ne_row hD hr e.symm), hV⟩, h.todo.kept hg ?_, h.low⟩
  cases hb : tv.ownBlock with
  | none => exact .inl rfl
  | some b => exact .inr fun e => own_type_ne h.todo hr (by decide) b hb e.symm
end
end Go.Proofs.YtgcbnndbeoekgaaDoor
