/- a term is laid into the document's web: what is in memory on the way -/
import Derived.Test.YtgcbnndbeoekgaaRWebM
set_option linter.unusedSimpArgs false
set_option linter.unusedVariables false
namespace Go.Proofs.Ytgcbnndbeoekgaa
open Go Go.RowKit Go.Maps

/-- the blocks that the document's web writes -/
def Wr (p : Nat) (nv cv : Value) (b : Nat) : Prop := b = p ∨ nv.ownBlock = some b ∨ cv.ownBlock = some b
/-- between two nodes -/
structure LayB (w : World) (B p q : Nat) (nv0 cv0 xv : Value) (wx : World) (nv cv : Value) (ns : List TN) (cl : List Nat) : Prop where
  kb : Kb (Wr p nv0 cv0) w wx
  nvb : ∀ b, nv.ownBlock = some b → nv0.ownBlock = some b ∨ w.heap.size ≤ b
  cvb : ∀ b, cv.ownBlock = some b → cv0.ownBlock = some b ∨ w.heap.size ≤ b
  rm : RM wx B p nv cv ns cl
  box : Blk wx q 24 #[xv]
  qge : w.heap.size ≤ q
/-- while a node's arguments are told -/
structure LayR (w : World) (B p q qt : Nat) (nv0 cv0 xv : Value) (wx : World) (nv cv av : Value) (ns : List TN) (cl : List Nat) (t : TN) : Prop where
  kb : Kb (Wr p nv0 cv0) w wx
  nvb : ∀ b, nv.ownBlock = some b → nv0.ownBlock = some b ∨ w.heap.size ≤ b
  cvb : ∀ b, cv.ownBlock = some b → cv0.ownBlock = some b ∨ w.heap.size ≤ b
  blk : Blk wx p 90 #[nv, cv]
  nodes : OwnX 66 3 wx B nv ns (fun b => cv.ownBlock = some b ∨ av.ownBlock = some b)
  cls : wx.ownsRow B 3 1 cv cl.length (natCells cl)
  low : B ≤ p
  box : Blk wx q 24 #[xv]
  qge : w.heap.size ≤ q
  tb : Blk wx qt 66 #[.int .i64 t.var, .string t.name, av]
  tge : w.heap.size ≤ qt
  tv : nv.ownBlock ≠ some qt
  args : wx.ownsRow B 3 1 av t.args.length (t.args.map (.int .i64))
  avb : ∀ b, av.ownBlock = some b → w.heap.size ≤ b ∧ cv.ownBlock ≠ some b
section
variable {w wx w' : World} {B p q qt : Nat} {nv0 cv0 xv nv nv' cv cv' av av' : Value} {ns : List TN} {cl : List Nat} {t : TN}
theorem LayB.alloc (h : LayB w B p q nv0 cv0 xv wx nv cv ns cl) (o : Obj) : LayB w B p q nv0 cv0 xv (wx.alloc o) nv cv ns cl := ⟨h.kb.alloc o, h.nvb, h.cvb, h.rm.alloc o, h.box.alloc o, h.qge⟩
theorem LayB.drew (h : LayB w B p q nv0 cv0 xv wx nv cv ns cl) : LayB w B p q nv0 cv0 xv wx.drew nv cv ns cl := ⟨h.kb.drew, h.nvb, h.cvb, h.rm.drew, h.box.drew, h.qge⟩
theorem LayB.start (h : RM w B p nv cv ns cl) : LayB w B p w.heap.size nv cv xv (w.alloc (.cells #[xv] 24)) nv cv ns cl := ⟨(Kb.refl _ _).alloc _, fun b e => .inl e, fun b e => .inl e, h.alloc _, Blk.new _ _ _, Nat.le_refl _⟩
/-- a node's box is made -/
theorem LayB.node (h : LayB w B p q nv0 cv0 xv wx nv cv ns cl) (hqt : wx.heap.size ≤ qt) (hb : Below wx.heap.size wx w') (ht : Blk w' qt 66 #[.int .i64 t.var, .string t.name, .slice none 0 0]) (h0 : t.args = []) : LayR w B p q qt nv0 cv0 xv w' nv cv (.slice none 0 0) ns cl t := by
  have hr := h.rm.below hb
  have hsz := h.kb.size
  refine ⟨h.kb.trans (Kb.of_below hb (X := fun _ => False) (fun n h1 h2 => by omega)) (fun _ h => h.elim), h.nvb, h.cvb, hr.blk, ?_, hr.cls, hr.low, h.box.below hb h.box.lt, h.qge, ht, by omega, fun e => ?_, by rw [h0]; exact World.ownsRow_nil _ _ _ _, fun b e => by simp [Value.ownBlock] at e⟩
  · exact hr.nodes.widen fun b e => .inl (e.resolve_right (by simp [Value.ownBlock]))
  · have := (h.rm.nodes.lt qt e).2; omega
theorem LayR.alloc (h : LayR w B p q qt nv0 cv0 xv wx nv cv av ns cl t) (o : Obj) : LayR w B p q qt nv0 cv0 xv (wx.alloc o) nv cv av ns cl t :=
  ⟨h.kb.alloc o, h.nvb, h.cvb, h.blk.alloc o, h.nodes.alloc o, h.cls.alloc o, h.low, h.box.alloc o, h.qge, h.tb.alloc o, h.tge, h.tv, h.args.alloc o, h.avb⟩
theorem LayR.drewN (h : LayR w B p q qt nv0 cv0 xv wx nv cv av ns cl t) (n : Nat) : LayR w B p q qt nv0 cv0 xv (wx.drewN n) nv cv av ns cl t :=
  ⟨h.kb.drewN n, h.nvb, h.cvb, h.blk, h.nodes, h.cls, h.low, h.box, h.qge, h.tb, h.tge, h.tv, h.args, h.avb⟩
theorem LayR.drew (h : LayR w B p q qt nv0 cv0 xv wx nv cv av ns cl t) : LayR w B p q qt nv0 cv0 xv wx.drew nv cv av ns cl t := h.drewN 1
/-- an argument more -/
theorem LayR.arg (h : LayR w B p q qt nv0 cv0 xv wx nv cv av ns cl t) {a : Int} (hg : wx.grownBy w' av.ownBlock) (ho : w'.ownsRow B 3 1 av' (t.args.length + 1) (t.args.map (.int .i64) ++ [.int .i64 a])) (hv : av'.ownBlock = av.ownBlock ∨ av'.ownBlock = some wx.heap.size) :
    LayR w B p q qt nv0 cv0 xv (w'.setCell ⟨qt, 2, none⟩ av') nv cv av' ns cl { t with args := t.args ++ [a] } := by
  have hsz := h.kb.size
  have hset := grown_set w' qt 2 av'
  have htb : Blk w' qt 66 #[.int .i64 t.var, .string t.name, av] := h.tb.grown hg (fun e => own_ne_blkX h.args h.tb (by decide) e.symm)
  have hbp : Blk w' p 90 #[nv, cv] := h.blk.grown hg (fun e => own_ne_blkX h.args h.blk (by decide) e.symm)
  have hbx : Blk w' q 24 #[xv] := h.box.grown hg (fun e => own_ne_blkX h.args h.box (by decide) e.symm)
  have hnn := h.nodes.ne_ints (by decide) h.args
  have hcls : w'.ownsRow B 3 1 cv cl.length (natCells cl) := h.cls.kept hg (by
    cases hb : cv.ownBlock with
    | none => exact .inl rfl
    | some b => exact .inr fun e => (h.avb b e.symm).2 hb)
  have hav' : ∀ b, av'.ownBlock = some b → av.ownBlock = some b ∨ wx.heap.size ≤ b := fun b e => by
    rcases hv with h1 | h1
    · exact .inl (by rw [← h1]; exact e)
    · rw [h1] at e; injection e with e; exact .inr (by omega)
  have hnodes2 : OwnX 66 3 w' B nv ns (fun b => cv.ownBlock = some b ∨ av'.ownBlock = some b) := by
    have hw := h.nodes.widen (Y := fun b => (cv.ownBlock = some b ∨ av.ownBlock = some b) ∨ av'.ownBlock = some b) fun b e => by
      rcases e with e | e
      · exact .inl e
      · exact (hav' b e).imp .inr id
    exact (hw.keptX hg (fun b e => .inl (.inr e)) (fun b e => hnn b e)).widen fun b e => .inl (e.imp .inl id)
  have hne2 : ∀ {base : Nat} {v : Value} {n : Nat} {xs : List Value}, w'.ownsRow base 3 1 v n xs → (w'.setCell ⟨qt, 2, none⟩ av').ownsRow base 3 1 v n xs := fun hr => hr.kept hset (.inr fun e => own_ne_blkX hr htb (by decide) e)
  refine ⟨(h.kb.grown hg (fun n e => .inr (h.avb n e).1)).setCell (.inr h.tge) _, h.nvb, h.cvb, hbp.far (p := ⟨qt, 2, none⟩) (blk_ne hbp htb (by decide)) _, hnodes2.node (by decide) htb h.tv _, hne2 hcls, h.low, hbx.far (p := ⟨qt, 2, none⟩) (blk_ne hbx htb (by decide)) _, h.qge, by simpa using htb.set_ 2 av', h.tge, h.tv, ?_, fun b e => ?_⟩
  · have : w'.ownsRow B 3 1 av' (t.args ++ [a]).length ((t.args ++ [a]).map (.int .i64)) := by simpa using ho
    exact hne2 this
  · rcases hav' b e with h1 | h1
    · exact h.avb b h1
    · refine ⟨by omega, fun e2 => ?_⟩
      have := (h.cls.lt b e2).2
      omega
/-- the node is added -/
theorem LayR.push (h : LayR w B p q qt nv0 cv0 xv wx nv cv av ns cl t) (hn : OwnX 66 3 w' B nv' (ns ++ [t]) (fun b => cv.ownBlock = some b)) (hg : wx.grownBy w' nv.ownBlock) (hv : nv'.ownBlock = nv.ownBlock ∨ nv'.ownBlock = some wx.heap.size) :
    LayB w B p q nv0 cv0 xv (w'.setCell ⟨p, 0, none⟩ nv') nv' cv (ns ++ [t]) cl := by
  have hsz := h.kb.size
  have hset := grown_set w' p 0 nv'
  have hb : ∀ {g : Nat} {ty : TypeId} {cs : Array Value}, Blk wx g ty cs → ty ≠ 66 → Blk w' g ty cs := fun h1 hne => h1.grown hg (fun e => by
    obtain ⟨avs, _, h2, _⟩ := h.nodes
    exact own_ne_blkX h2 h1 hne e.symm)
  have hbp := hb h.blk (by decide)
  have hbx := hb h.box (by decide)
  have hcls : w'.ownsRow B 3 1 cv cl.length (natCells cl) := h.cls.kept hg (by
    cases hb : cv.ownBlock with
    | none => exact .inl rfl
    | some b => exact .inr fun e => h.nodes.ne_ints (by decide) h.cls b hb e.symm)
  refine ⟨(h.kb.grown hg (fun n e => (h.nvb n e).imp (fun e => .inr (.inl e)) id)).setCell (.inl (.inl rfl)) _, fun b e => ?_, h.cvb, ⟨by simpa using hbp.set_ 0 nv', ?_, hcls.kept hset (.inr fun e => own_ne_blkX hcls hbp (by decide) e), h.low⟩, hbx.far (p := ⟨p, 0, none⟩) (blk_ne hbx hbp (by decide)) _, h.qge⟩
  · rcases hv with h1 | h1
    · exact h.nvb b (by rw [← h1]; exact e)
    · rw [h1] at e; injection e with e; exact .inr (by omega)
  · exact hn.other hbp (by decide) (by decide) _
/-- its class is added -/
theorem LayB.cls (h : LayB w B p q nv0 cv0 xv wx nv cv ns cl) {c : Nat} (hg : wx.grownBy w' cv.ownBlock) (ho : w'.ownsRow B 3 1 cv' (cl.length + 1) (natCells cl ++ [.int .i64 c])) (hv : cv'.ownBlock = cv.ownBlock ∨ cv'.ownBlock = some wx.heap.size) :
    LayB w B p q nv0 cv0 xv (w'.setCell ⟨p, 1, none⟩ cv') nv cv' ns (cl ++ [c]) := by
  have hsz := h.kb.size
  have hset := grown_set w' p 1 cv'
  have hr := h.rm
  have hbp : Blk w' p 90 #[nv, cv] := hr.blk.grown hg (fun e => own_ne_blkX hr.cls hr.blk (by decide) e.symm)
  have hbx : Blk w' q 24 #[xv] := h.box.grown hg (fun e => own_ne_blkX hr.cls h.box (by decide) e.symm)
  have hcv' : ∀ b, cv'.ownBlock = some b → cv.ownBlock = some b ∨ wx.heap.size ≤ b := fun b e => by
    rcases hv with h1 | h1
    · exact .inl (by rw [← h1]; exact e)
    · rw [h1] at e; injection e with e; exact .inr (by omega)
  have hnodes : OwnX 66 3 w' B nv ns (fun b => cv'.ownBlock = some b) := by
    have hw := hr.nodes.widen (Y := fun b => cv.ownBlock = some b ∨ cv'.ownBlock = some b) fun b e => by
      rcases e with e | e
      · exact .inl e
      · exact (hcv' b e)
    exact (hw.keptX hg (fun b e => .inl e) (fun b e => hr.nodes.ne_ints (by decide) hr.cls b e)).widen fun b e => .inl (.inr e)
  refine ⟨(h.kb.grown hg (fun n e => (h.cvb n e).imp (fun e => .inr (.inr e)) id)).setCell (.inl (.inl rfl)) _, h.nvb, fun b e => ?_, ⟨by simpa using hbp.set_ 1 cv', hnodes.other hbp (by decide) (by decide) _, ?_, hr.low⟩, hbx.far (p := ⟨p, 1, none⟩) (blk_ne hbx hbp (by decide)) _, h.qge⟩
  · rcases hcv' b e with h1 | h1
    · exact h.cvb b h1
    · exact .inr (by omega)
  · have : w'.ownsRow B 3 1 cv' (cl ++ [c]).length (natCells (cl ++ [c])) := by unfold natCells at ho ⊢; simpa using ho
    exact this.kept hset (.inr fun e => own_ne_blkX ho hbp (by decide) e)
end
end Go.Proofs.Ytgcbnndbeoekgaa
