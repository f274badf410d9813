import Derived.Test.YtgcbnndbeoekgaaDoorLayP
import Derived.Test.YtgcbnndbeoekgaaDoorRightR
import Derived.Laws.OwnMore
set_option linter.unusedSimpArgs false
set_option linter.unusedVariables false
/- a term is laid into the program's web: what is in memory on the way -/
namespace Go.Proofs.YtgcbnndbeoekgaaDoor
open Go Go.RowKit Go.Maps

/-- all stands but blocks of X -/
structure Kb (X : Nat → Prop) (w w' : World) : Prop where
  os : w'.os = w.os
  tape : w'.tape = w.tape
  output : w'.output = w.output
  size : w.heap.size ≤ w'.heap.size
  block : ∀ k, k < w.heap.size → ¬ X k → w'.heap[k]? = w.heap[k]?
section
variable {X Y : Nat → Prop} {a b c : World}
theorem Kb.refl (X : Nat → Prop) (w : World) : Kb X w w := ⟨rfl, rfl, rfl, Nat.le_refl _, fun _ _ _ => rfl⟩
theorem Kb.trans (h : Kb X a b) (k : Kb Y b c) (hY : ∀ n, Y n → X n ∨ a.heap.size ≤ n) : Kb X a c :=
  ⟨k.os.trans h.os, k.tape.trans h.tape, k.output.trans h.output, Nat.le_trans h.size k.size, fun n hn hX => (k.block n (Nat.lt_of_lt_of_le hn h.size) (fun hy => (hY n hy).elim hX (fun h2 => by omega))).trans (h.block n hn hX)⟩
theorem Kb.of_grown {row : Option Nat} (h : a.grownBy b row) (hX : ∀ n, row = some n → X n) : Kb X a b := ⟨h.os, h.tape, h.output, h.size, fun k hk hn => h.block k hk (fun e => hn (hX k e.symm))⟩
theorem Kb.grown {row : Option Nat} (h : Kb X a b) (k : b.grownBy c row) (hr : ∀ n, row = some n → X n ∨ a.heap.size ≤ n) : Kb X a c :=
  h.trans (Y := fun n => row = some n) (Kb.of_grown k fun _ e => e) hr
theorem Kb.alloc (h : Kb X a b) (o : Obj) : Kb X a (b.alloc o) := h.grown (World.grownBy_alloc b o none) (fun _ e => by cases e)
theorem Kb.drew (h : Kb X a b) : Kb X a b.drew := ⟨h.os, h.tape, h.output, h.size, h.block⟩
theorem Kb.drewN (h : Kb X a b) (n : Nat) : Kb X a (b.drewN n) := ⟨h.os, h.tape, h.output, h.size, h.block⟩
theorem Kb.less (h : Kb X a b) (hX : ∀ n, X n → Y n ∨ a.heap.size ≤ n) : Kb Y a b := ⟨h.os, h.tape, h.output, h.size, fun k hk hn => h.block k hk (fun hx => (hX k hx).elim hn (fun h2 => by omega))⟩
theorem Kb.below {B : Nat} (h : Kb X a b) (hB : B ≤ a.heap.size) (hX : ∀ n, X n → B ≤ n) : Below B a b :=
  ⟨h.os, h.tape, h.output, h.size, fun k hk => h.block k (Nat.lt_of_lt_of_le hk hB) (fun hx => by have := hX k hx; omega)⟩
theorem Kb.setCell (h : Kb X a b) {g i : Nat} (hg : X g ∨ a.heap.size ≤ g) (u : Value) : Kb X a (b.setCell ⟨g, i, none⟩ u) :=
  h.grown (row := some g) ⟨rfl, rfl, rfl, by simp, fun k _ hne => Below.heap_setCell _ _ _ _ (fun e => hne (by rw [e]))⟩ (fun n e => by cases e; exact hg)
theorem Keep.kb {F : Nat → Prop} (h : Kb X a b) (hF : ∀ n, F n → n < a.heap.size ∧ ¬ X n) : Keep F a b := fun p hp => World.cell?_of_block (h.block p.block (hF _ hp).1 (hF _ hp).2)
theorem Blk.kb {g : Nat} {t : TypeId} {cs : Array Value} (h : Blk a g t cs) (k : Kb X a b) (hg : ¬ X g) : Blk b g t cs := (k.block g h.lt hg).trans h
theorem own_kb {base : Nat} {e : TypeId} {size n : Nat} {v : Value} {xs : List Value} (h : a.ownsRow base e size v n xs) (k : Kb X a b) (hg : ∀ g, v.ownBlock = some g → ¬ X g) : b.ownsRow base e size v n xs := by
  have hlt := h.lt
  refine ⟨h.1, ?_⟩
  rcases h.2 with h0 | ⟨g, cap, cur, rfl, h2, h3, h4⟩
  · exact .inl h0
  · exact .inr ⟨g, cap, cur, rfl, h2, (k.block g (hlt g rfl).2 (hg g rfl)).trans h3, h4⟩
end
theorem grown_set (w : World) (g i : Nat) (u : Value) : w.grownBy (w.setCell ⟨g, i, none⟩ u) (some g) := ⟨rfl, rfl, rfl, by simp, fun k _ hne => Below.heap_setCell _ _ _ _ (fun e => hne (by rw [e]))⟩
theorem take_set_snoc {α : Type} {l : List α} {i : Nat} {v : α} (h : i < l.length) : (l.set i v).take (i + 1) = l.take i ++ [v] := by
  rw [List.take_succ_eq_append_getElem (by simpa using h), List.getElem_set_self, List.take_set_of_le (Nat.le_refl _)]
theorem blk_ne {w : World} {g g' : Nat} {t t' : TypeId} {cs cs' : Array Value} (h1 : Blk w g t cs) (h2 : Blk w g' t' cs') (hne : t ≠ t') : g ≠ g' := by
  intro e
  subst e
  unfold Blk at h1 h2
  rw [h1] at h2
  injection h2 with h2
  injection h2 with _ h2
  exact hne h2
theorem cell_alloc {w : World} {g : Nat} (h : g < w.heap.size) (i : Nat) (o : Obj) : (w.alloc o).cell? ⟨g, i, none⟩ = w.cell? ⟨g, i, none⟩ := ((Below.refl w.heap.size w).alloc (Nat.le_refl _) o).cell (p := ⟨g, i, none⟩) h
/-- the blocks that the web writes -/
def Wb (p mb : Nat) (lv tv : Value) (b : Nat) : Prop := b = p ∨ b = mb ∨ lv.ownBlock = some b ∨ tv.ownBlock = some b
theorem WebAt.wb_lt {w : World} {B p mb : Nat} {lv tv : Value} {l : List PN} {hm td : List (Nat × Nat)} (h : WebAt w B p lv mb tv l hm td) {b : Nat} (hb : Wb p mb lv tv b) : B ≤ b ∧ b < w.heap.size := by
  rcases hb with rfl | rfl | hb | hb
  · exact ⟨h.low.1, h.blk.lt⟩
  · obtain ⟨D, hD, _⟩ := h.holes
    exact ⟨h.low.2, hD.lt⟩
  · exact h.nodes.lt b hb
  · exact h.todo.lt b hb
/-- the web behind a store into a block of numbers that is none of its arguments' -/
theorem WebAt.ints {w : World} {B p mb : Nat} {lv tv : Value} {l : List PN} {hm td : List (Nat × Nat)} (h : WebAt w B p lv mb tv l hm td) {g i : Nat} {cs : Array Value} (hb : Blk w g 3 cs) (hne : ∀ x ∈ l, x.av.ownBlock ≠ some g) (u : Value) : WebAt (w.setCell ⟨g, i, none⟩ u) B p lv mb tv l hm td := by
  obtain ⟨D, hD, _⟩ := h.holes
  refine h.kept (grown_set w g i u) fun b e => ?_
  cases e
  refine ⟨fun e => ?_, fun e => map_ne_blk hD hb e.symm, own_ne_blkX h.nodes.row hb (by decide), own_ne_blkX h.todo hb (by decide), hne⟩
  subst e
  have h1 := h.blk
  unfold Blk at h1 hb
  rw [h1] at hb
  injection hb with hb
  injection hb with _ hb
  exact absurd hb (by decide)
/-- a block of numbers, all of it, as a row -/
theorem Row1.owns {w : World} {g base : Nat} {l : List Nat} (h : Row1 w g l) (hb : base ≤ g) (hl : l.length ≤ maxLen) : w.ownsRow base 3 1 (.slice (some ⟨g, 0, none⟩) l.length l.length) l.length (natCells l) :=
  ⟨by unfold natCells; simp, .inr ⟨g, l.length, _, rfl, hb, h, Nat.le_refl _, hl, by simp, by unfold natCells; rw [List.take_of_length_le (by simp)]⟩⟩

/-- on the way through a term's nodes -/
structure LayM (w : World) (B p mb : Nat) (lv0 tv : Value) (td : List (Nat × Nat)) (qx ga : Nat) (xv : Value) (wx : World) (lv : Value) (l : List PN) (hm : List (Nat × Nat)) (atL : List Nat) : Prop where
  kb : Kb (Wb p mb lv0 tv) w wx
  web : WebAt wx B p lv mb tv l hm td
  lvb : ∀ b, lv.ownBlock = some b → lv0.ownBlock = some b ∨ w.heap.size ≤ b
  row : Row1 wx ga atL
  gle : w.heap.size ≤ ga
  qle : w.heap.size ≤ qx
  ap : ∀ x ∈ l, x.av.ownBlock ≠ some ga
  box : Blk wx qx 24 #[xv]
section
variable {w wx w' : World} {B p mb qx ga : Nat} {lv0 tv xv lv lv' : Value} {td hm : List (Nat × Nat)} {l : List PN} {atL : List Nat}
theorem LayM.alloc (h : LayM w B p mb lv0 tv td qx ga xv wx lv l hm atL) (o : Obj) : LayM w B p mb lv0 tv td qx ga xv (wx.alloc o) lv l hm atL :=
  ⟨h.kb.alloc o, h.web.alloc o, h.lvb, Blk.alloc h.row o, h.gle, h.qle, h.ap, h.box.alloc o⟩
theorem LayM.drewN (h : LayM w B p mb lv0 tv td qx ga xv wx lv l hm atL) (n : Nat) : LayM w B p mb lv0 tv td qx ga xv (wx.drewN n) lv l hm atL :=
  ⟨h.kb.drewN n, h.web.drewN n, h.lvb, h.row, h.gle, h.qle, h.ap, h.box⟩
theorem LayM.drew (h : LayM w B p mb lv0 tv td qx ga xv wx lv l hm atL) : LayM w B p mb lv0 tv td qx ga xv wx.drew lv l hm atL := h.drewN 1
theorem LayM.ne (h : LayM w B p mb lv0 tv td qx ga xv wx lv l hm atL) : qx ≠ ga ∧ p ≠ ga ∧ qx ≠ p ∧ mb ≠ ga ∧ mb ≠ qx ∧ mb ≠ p := by
  obtain ⟨D, hD, _⟩ := h.web.holes
  have ne : ∀ {g g' : Nat} {t t' : TypeId} {cs cs' : Array Value}, Blk wx g t cs → Blk wx g' t' cs' → t ≠ t' → g ≠ g' := by
    intro g g' t t' cs cs' h1 h2 hne e
    subst e
    unfold Blk at h1 h2
    rw [h1] at h2
    injection h2 with h2
    injection h2 with _ h2
    exact hne h2
  exact ⟨ne h.box h.row (by decide), ne h.web.blk h.row (by decide), ne h.box h.web.blk (by decide), map_ne_blk hD h.row, map_ne_blk hD h.box, map_ne_blk hD h.web.blk⟩
/-- a number is stored in the row of places -/
theorem LayM.store (h : LayM w B p mb lv0 tv td qx ga xv wx lv l hm atL) (i v : Nat) : LayM w B p mb lv0 tv td qx ga xv (wx.setCell ⟨ga, i, none⟩ (.int .i64 v)) lv l hm (atL.set i v) :=
  ⟨h.kb.setCell (.inr h.gle) _, h.web.ints h.row h.ap _, h.lvb, h.row.set_ i v, h.gle, h.qle, h.ap, h.box.far h.ne.1 _⟩
/-- a number is stored in another block of numbers -/
theorem LayM.other (h : LayM w B p mb lv0 tv td qx ga xv wx lv l hm atL) {g i : Nat} {cs : Array Value} (hb : Blk wx g 3 cs) (hg : w.heap.size ≤ g) (hga : g ≠ ga) (hne : ∀ x ∈ l, x.av.ownBlock ≠ some g) (u : Value) : LayM w B p mb lv0 tv td qx ga xv (wx.setCell ⟨g, i, none⟩ u) lv l hm atL := by
  have hq : qx ≠ g := fun e => by
    subst e
    have h1 := h.box
    unfold Blk at h1 hb
    rw [h1] at hb
    injection hb with hb
    injection hb with _ hb
    exact absurd hb (by decide)
  exact ⟨h.kb.setCell (.inr hg) _, h.web.ints hb hne _, h.lvb, Blk.far h.row (p := ⟨g, i, none⟩) (Ne.symm hga) _, h.gle, h.qle, h.ap, h.box.far (p := ⟨g, i, none⟩) hq _⟩
/-- a box of a type of its own is written -/
theorem LayM.box_ (h : LayM w B p mb lv0 tv td qx ga xv wx lv l hm atL) {g i : Nat} {t : TypeId} {cs : Array Value} (hb : Blk wx g t cs) (hg : w.heap.size ≤ g) (hgn : lv.ownBlock ≠ some g) (ht : t = 103) (u : Value) : LayM w B p mb lv0 tv td qx ga xv (wx.setCell ⟨g, i, none⟩ u) lv l hm atL := by
  subst ht
  obtain ⟨D, hD, _⟩ := h.web.holes
  have ne : ∀ {g' : Nat} {t' : TypeId} {cs' : Array Value}, Blk wx g' t' cs' → t' ≠ 103 → g' ≠ g := by
    intro g' t' cs' h1 hne e
    subst e
    unfold Blk at h1 hb
    rw [h1] at hb
    injection hb with hb
    injection hb with _ hb
    exact hne hb
  refine ⟨h.kb.setCell (.inr hg) _, h.web.kept (grown_set wx g i u) fun b e => ?_, h.lvb, Blk.far h.row (p := ⟨g, i, none⟩) (ne h.row (by decide)) _, h.gle, h.qle, h.ap, h.box.far (p := ⟨g, i, none⟩) (ne h.box (by decide)) _⟩
  cases e
  exact ⟨Ne.symm (ne h.web.blk (by decide)), fun e => map_ne_blk hD hb e.symm, hgn, own_ne_blkX h.web.todo hb (by decide), fun x hx => own_ne_blkX (h.web.nodes.args x hx) hb (by decide)⟩
/-- a hole is put into the map -/
theorem LayM.put (h : LayM w B p mb lv0 tv td qx ga xv wx lv l hm atL) {D : DataW Value} {k v : Nat} (hg : wx.grownBy w' (some mb)) (hD : w'.ownsMap Tryd.prog 3 heldM mb (hm.length + 1) D) (hV : MapV D (holeVals (hm ++ [(k, v)]))) : LayM w B p mb lv0 tv td qx ga xv w' lv l (hm ++ [(k, v)]) atL := by
  obtain ⟨D0, hD0, _⟩ := h.web.holes
  obtain ⟨n1, n2, n3, n4, n5, n6⟩ := h.ne
  refine ⟨h.kb.grown hg (fun n e => by cases e; exact .inl (.inr (.inl rfl))), ⟨h.web.blk.grown hg (fun e => n6 (by injection e with e; exact e.symm)), h.web.nodes.kept hg fun b e => ?_, ⟨D, by simpa using hD, hV⟩, h.web.todo.kept hg (.inr (map_ne_row hD0 h.web.todo)), h.web.low⟩, h.lvb, Blk.grown h.row hg (fun e => n4 (by injection e with e; exact e.symm)), h.gle, h.qle, h.ap, h.box.grown hg (fun e => n5 (by injection e with e; exact e.symm))⟩
  cases e
  exact ⟨map_ne_row hD0 h.web.nodes.row, fun x hx => map_ne_row hD0 (h.web.nodes.args x hx)⟩
/-- a node without arguments is added, the web's row stored anew -/
theorem LayM.push (h : LayM w B p mb lv0 tv td qx ga xv wx lv l hm atL) {x : PN} (hx : x.av = .slice none 0 0 ∧ x.args = []) (hg : wx.grownBy w' lv.ownBlock) (ho : w'.ownsRow B 103 9 lv' (l.length + 1) (l.flatMap PN.cells ++ x.cells)) (hv : lv'.ownBlock = lv.ownBlock ∨ lv'.ownBlock = some wx.heap.size) :
    LayM w B p mb lv0 tv td qx ga xv (w'.setCell ⟨p, 0, none⟩ lv') lv' (l ++ [x]) hm atL := by
  obtain ⟨D, hD, hV⟩ := h.web.holes
  obtain ⟨n1, n2, n3, n4, n5, n6⟩ := h.ne
  have hr := h.web.nodes.row
  have hbp : Blk w' p 86 #[lv, .map (some mb), tv] := h.web.blk.grown hg (fun e => own_ne_blkX hr h.web.blk (by decide) e.symm)
  have hset := grown_set w' p 0 lv'
  have keepI : ∀ {base : Nat} {a : Value} {n : Nat} {xs : List Value} {e : TypeId} {size : Nat}, wx.ownsRow base e size a n xs → e ≠ 103 → e ≠ 86 → (w'.setCell ⟨p, 0, none⟩ lv').ownsRow base e size a n xs := by
    intro base a n xs e size ha he hew
    have h1 : w'.ownsRow base e size a n xs := ha.kept hg (by
      cases hb : a.ownBlock with
      | none => exact .inl rfl
      | some b => exact .inr fun e2 => own_type_ne ha hr he b hb e2.symm)
    refine h1.kept hset ?_
    cases hb : a.ownBlock with
    | none => exact .inl rfl
    | some b => exact .inr fun e2 => by injection e2 with e2; exact own_ne_blkX h1 hbp (Ne.symm hew) (by rw [hb, e2])
  have hD1 := hD.kept hg (fun e => map_ne_row hD hr e.symm)
  have hlvb : ∀ b, lv'.ownBlock = some b → lv0.ownBlock = some b ∨ w.heap.size ≤ b := fun b hb => by
    rcases hv with e | e
    · exact h.lvb b (by rw [← e]; exact hb)
    · rw [e] at hb; injection hb with hb; have := h.kb.size; exact .inr (by omega)
  refine ⟨(h.kb.grown hg (fun n e => (h.lvb n e).imp (fun e => .inr (.inr (.inl e))) id)).setCell (.inl (.inl rfl)) _, ⟨by simpa using hbp.set_ 0 lv', ⟨?_, fun y hy => ?_⟩, ⟨D, hD1.kept hset (fun e => n6 (by injection e)), hV⟩, keepI h.web.todo (by decide) (by decide), h.web.low⟩, hlvb, ?_, h.gle, h.qle, fun y hy => ?_, ?_⟩
  · have : w'.ownsRow B 103 9 lv' (l ++ [x]).length ((l ++ [x]).flatMap PN.cells) := by simpa using ho
    refine this.kept hset ?_
    cases hb : lv'.ownBlock with
    | none => exact .inl rfl
    | some b => exact .inr fun e2 => by injection e2 with e2; exact own_ne_blkX ho hbp (by decide) (by rw [hb, e2])
  · rcases List.mem_append.1 hy with hy | hy
    · exact keepI (h.web.nodes.args y hy) (by decide) (by decide)
    · simp only [List.mem_cons, List.not_mem_nil, or_false] at hy
      subst hy
      rw [hx.1, hx.2]; exact World.ownsRow_nil _ _ _ _
  · exact Blk.far (Blk.grown h.row hg (fun e => own_ne_blkX hr h.row (by decide) e.symm)) (p := ⟨p, 0, none⟩) (Ne.symm n2) _
  · rcases List.mem_append.1 hy with hy | hy
    · exact h.ap y hy
    · simp only [List.mem_cons, List.not_mem_nil, or_false] at hy
      subst hy
      rw [hx.1]; simp [Value.ownBlock]
  · exact (h.box.grown hg (fun e => own_ne_blkX hr h.box (by decide) e.symm)).far (p := ⟨p, 0, none⟩) n3 _
/-- a node's arguments are stored -/
theorem LayM.args {g n c : Nat} (h : LayM w B p mb lv0 tv td qx ga xv wx (.slice (some ⟨g, 0, none⟩) n c) l hm atL) {k : Nat} (hk : k < l.length) {ks : List Nat} {gb : Nat} (hr : Row1 wx gb ks) (hl : ks.length ≤ maxLen) (hB : B ≤ gb) (hgb : gb ≠ ga) :
    LayM w B p mb lv0 tv td qx ga xv (wx.setCell ⟨g, k * 9 + 3, none⟩ (.slice (some ⟨gb, 0, none⟩) ks.length ks.length)) (.slice (some ⟨g, 0, none⟩) n c) (l.set k { l[k] with av := .slice (some ⟨gb, 0, none⟩) ks.length ks.length, args := ks }) hm atL := by
  have hset := grown_set wx g (k * 9 + 3) (.slice (some ⟨gb, 0, none⟩) ks.length ks.length)
  have hrow := h.web.nodes.row
  have ha : wx.ownsRow B 3 1 (.slice (some ⟨gb, 0, none⟩) ks.length ks.length) ks.length (natCells ks) := hr.owns hB hl
  have hn := h.web.nodes.set_ hk (k := 3) (x := { l[k] with av := .slice (some ⟨gb, 0, none⟩) ks.length ks.length, args := ks }) (by omega) rfl ha
  have own : ∀ {t : TypeId} {g' : Nat} {cs : Array Value}, Blk wx g' t cs → t ≠ 103 → g' ≠ g := fun hb ht e => own_ne_blkX hrow hb ht (by rw [e]; rfl)
  refine ⟨h.kb.setCell (by rcases h.lvb g rfl with e | e; exact .inl (.inr (.inr (.inl e))); exact .inr e) _, h.web.nodesOf (l' := l.set k _) hset hn, h.lvb, Blk.far h.row (p := ⟨g, k * 9 + 3, none⟩) (own h.row (by decide)) _, h.gle, h.qle, fun y hy => ?_, h.box.far (p := ⟨g, k * 9 + 3, none⟩) (own h.box (by decide)) _⟩
  rcases List.mem_or_eq_of_mem_set hy with hy | hy
  · exact h.ap y hy
  · subst hy
    intro e
    exact hgb (by injection e)
/-- nothing has changed yet -/
theorem LayM.start (hw : WebAt w B p lv0 mb tv l hm td) (n : Nat) : LayM w B p mb lv0 tv td w.heap.size (w.heap.size + 1) xv ((w.alloc (.cells #[xv] 24)).alloc (.cells (madeCells #[.int .i64 0] n) 3)) lv0 l hm (List.replicate n 0) := by
  refine ⟨((Kb.refl _ _).alloc _).alloc _, (hw.alloc _).alloc _, fun b e => .inl e, ?_, by omega, Nat.le_refl _, fun x hx e => ?_, (Blk.new _ _ _).alloc _⟩
  · have := Row1.made (w.alloc (.cells #[xv] 24)) n
    simpa using this
  · have := ((hw.nodes.args x hx).lt _ e).2
    omega
end
/-- what lay leaves -/
structure LayPost (w : World) (B p mb : Nat) (lv0 tv : Value) (td : List (Nat × Nat)) (ts : List TN) (l0 : List PN) (hm0 : List (Nat × Nat)) (w' : World) (lv : Value) (l l2 : List PN) (hm : List (Nat × Nat)) (at_ : List Nat) : Prop where
  kb : Kb (Wb p mb lv0 tv) w w'
  web : WebAt w' B p lv mb tv l2 hm td
  lvb : ∀ b, lv.ownBlock = some b → lv0.ownBlock = some b ∨ w.heap.size ≤ b
  one : Lay1 ts l0 hm0 ts.length l hm at_
  two : Lay2 ts at_ l ts.length l2
def SomeLay (w : World) (B p mb : Nat) (lv0 tv : Value) (td : List (Nat × Nat)) (ts : List TN) (l0 : List PN) (hm0 : List (Nat × Nat)) (e : Ending) (w' : World) : Prop :=
  ∃ lv l l2 hm at_, (∃ k : Nat, e = .returned (.int .i64 k) ∧ at_[0]? = some k) ∧ LayPost w B p mb lv0 tv td ts l0 hm0 w' lv l l2 hm at_
end Go.Proofs.YtgcbnndbeoekgaaDoor
