/- the document's web in memory -/
import Derived.Test.YtgcbnndbeoekgaaRWebQ
import Derived.Test.YtgcbnndbeoekgaaLayM
import Derived.Test.YtgcbnndbeoekgaaCopyT
import Derived.Test.YtgcbnndbeoekgaaRegY
import Derived.Deep.LoopGhost
import Derived.StillTailTactics
import Derived.Deep.DeepCutAuto
set_option linter.unusedSimpArgs false
set_option linter.unusedVariables false
namespace Go.Proofs.Ytgcbnndbeoekgaa
open Go Go.RowKit Go.Maps

theorem own_natR {w : World} {base m c : Nat} {A : Option Addr} {l : List Nat} (h : w.ownsRow base 3 1 (.slice A m c) m (natCells l)) {i : Nat} (hi : i < m) (hl : l.length = m) : ∃ g, A = some ⟨g, 0, none⟩ ∧ w.cell? ⟨g, i, none⟩ = some (.int .i64 (l[i]'(by omega))) ∧ w.frozen? ⟨g, i, none⟩ = false := by
  rcases h.2 with ⟨_, h0⟩ | ⟨g, cap, cur, e, hb, hw, _⟩
  · omega
  · injection e with e _ _
    subst e
    refine ⟨g, rfl, ?_, ?_⟩
    · rw [World.ownsRow.cellAt h i (by omega)]
      unfold natCells
      simp [show i < l.length by omega]
    · exact Blk.frozen (t := 3) hw i
structure RM (w : World) (B p : Nat) (nv cv : Value) (ns : List TN) (cl : List Nat) : Prop where
  blk : Blk w p 90 #[nv, cv]
  nodes : OwnX 66 3 w B nv ns (fun b => cv.ownBlock = some b)
  cls : w.ownsRow B 3 1 cv cl.length (natCells cl)
  low : B ≤ p
section
variable {w w' : World} {B p : Nat} {nv cv : Value} {ns : List TN} {cl : List Nat}
theorem RM.still (h : RM w B p nv cv ns cl) (hg : w.grownBy w' none) : RM w' B p nv cv ns cl :=
  ⟨h.blk.grown hg (fun e => by cases e), h.nodes.still hg, h.cls.kept hg (by cases cv.ownBlock <;> simp), h.low⟩
theorem RM.alloc (h : RM w B p nv cv ns cl) (o : Obj) : RM (w.alloc o) B p nv cv ns cl := h.still (World.grownBy_alloc w o none)
theorem RM.below (h : RM w B p nv cv ns cl) (hb : Below w.heap.size w w') : RM w' B p nv cv ns cl := h.still ⟨hb.os, hb.tape, hb.output, hb.size, fun k hk _ => hb.block k hk⟩
theorem RM.drewN (h : RM w B p nv cv ns cl) (n : Nat) : RM (w.drewN n) B p nv cv ns cl := ⟨h.blk, h.nodes, h.cls, h.low⟩
theorem RM.drew (h : RM w B p nv cv ns cl) : RM w.drew B p nv cv ns cl := h.drewN 1
/-- a node's cells -/
theorem RM.node (h : RM w B p nv cv ns cl) {i : Nat} (hi : i < ns.length) : ∃ g c, nv = .slice (some ⟨g, 0, none⟩) ns.length c ∧ g < w.heap.size ∧ ∃ S k, w.cell? ⟨g, i * 3, none⟩ = some (.int .i64 ns[i].var) ∧ w.cell? ⟨g, i * 3 + 1, none⟩ = some (.string ns[i].name) ∧ w.cell? ⟨g, i * 3 + 2, none⟩ = some (.slice S ns[i].args.length k) ∧ ns[i].args.length ≤ k ∧ k ≤ maxLen ∧
    ∀ j (hj : j < ns[i].args.length), ∃ ga, S = some ⟨ga, 0, none⟩ ∧ ga < w.heap.size ∧ w.cell? ⟨ga, j, none⟩ = some (.int .i64 ns[i].args[j]) := by
  obtain ⟨avs, h1, h2, h3, h4, h5⟩ := h.nodes
  have hi' : i < avs.length := by omega
  have hlt := h2.lt
  have hcell : ∀ k, k < 3 → ∃ g c, nv = .slice (some ⟨g, 0, none⟩) ns.length c ∧ w.cell? ⟨g, i * 3 + k, none⟩ = (nodeCells ns[i] avs[i])[k]? := fun k hk => by
    have h2' := h2
    rcases h2.2 with ⟨_, h0⟩ | ⟨g, cap, cur, e, _⟩
    · omega
    · subst e
      refine ⟨g, cap, rfl, ?_⟩
      rw [World.ownsRow.cellAt h2' (i * 3 + k) (by omega), rowCells_get hi hi' hk]
  obtain ⟨g, c, e, c0⟩ := hcell 0 (by omega)
  obtain ⟨g1, _, e1, c1⟩ := hcell 1 (by omega)
  obtain ⟨g2, _, e2, c2⟩ := hcell 2 (by omega)
  rw [e] at e1 e2
  injection e1 with e1 _ _
  injection e1 with e1
  injection e1 with e1
  injection e2 with e2 _ _
  injection e2 with e2
  injection e2 with e2
  subst e1; subst e2
  have ha := h3 i hi hi'
  obtain ⟨S, k, ek⟩ := own_shape ha
  have hk : ns[i].args.length ≤ k ∧ k ≤ maxLen := by
    rcases ha.2 with ⟨e0, h0⟩ | ⟨_, cap, _, e0, _, _, h5, h6, _⟩
    · rw [ek] at e0; injection e0 with _ e0 e1; subst e1; omega
    · rw [ek] at e0; injection e0 with _ _ e1; subst e1; exact ⟨h5, h6⟩
  refine ⟨g, c, e, ?_, S, k, c0, c1, ?_, hk.1, hk.2, fun j hj => ?_⟩
  · rw [e] at hlt; exact (hlt g rfl).2
  · rw [c2]; show some avs[i] = _; rw [ek]
  · rw [ek] at ha
    rcases ha.2 with ⟨_, h0⟩ | ⟨ga, cap, cur, e0, _⟩
    · omega
    · injection e0 with e0 _ _
      subst e0
      refine ⟨ga, rfl, (ha.lt ga rfl).2, ?_⟩
      rw [World.ownsRow.cellAt ha j (by simpa using hj)]
      simp [hj]
theorem RM.clsAt (h : RM w B p nv cv ns cl) {i : Nat} (hi : i < cl.length) : ∃ g c, cv = .slice (some ⟨g, 0, none⟩) cl.length c ∧ g < w.heap.size ∧ w.cell? ⟨g, i, none⟩ = some (.int .i64 cl[i]) ∧ w.frozen? ⟨g, i, none⟩ = false := by
  obtain ⟨A, c, e⟩ := own_shape h.cls
  have h1 := h.cls
  rw [e] at h1
  obtain ⟨g, e2, h3, h4⟩ := own_natR h1 hi rfl
  subst e2
  exact ⟨g, c, e, (h1.lt g rfl).2, h3, h4⟩
theorem RM.nodeG {g n c : Nat} (h : RM w B p (.slice (some ⟨g, 0, none⟩) n c) cv ns cl) {i : Nat} (hi : i < ns.length) : g < w.heap.size ∧ ∃ S k, w.cell? ⟨g, i * 3, none⟩ = some (.int .i64 ns[i].var) ∧ w.cell? ⟨g, i * 3 + 1, none⟩ = some (.string ns[i].name) ∧ w.cell? ⟨g, i * 3 + 2, none⟩ = some (.slice S ns[i].args.length k) ∧ ns[i].args.length ≤ k ∧ k ≤ maxLen ∧
    ∀ j (hj : j < ns[i].args.length), ∃ ga, S = some ⟨ga, 0, none⟩ ∧ ga < w.heap.size ∧ w.cell? ⟨ga, j, none⟩ = some (.int .i64 ns[i].args[j]) := by
  obtain ⟨g', c', e, h1, h2⟩ := h.node hi
  injection e with e _ _
  injection e with e
  injection e with e
  subst e
  exact ⟨h1, h2⟩
/-- a node's cells, in all worlds in which the classes' row alone has changed -/
theorem RM.nodeK {g n c : Nat} (h : RM w B p (.slice (some ⟨g, 0, none⟩) n c) cv ns cl) {i : Nat} (hi : i < ns.length) : ∃ S k, ns[i].args.length ≤ k ∧ k ≤ maxLen ∧ ∀ wx, w.grownBy wx cv.ownBlock →
    wx.cell? ⟨g, i * 3, none⟩ = some (.int .i64 ns[i].var) ∧ wx.cell? ⟨g, i * 3 + 1, none⟩ = some (.string ns[i].name) ∧ wx.cell? ⟨g, i * 3 + 2, none⟩ = some (.slice S ns[i].args.length k) ∧
    ∀ j (hj : j < ns[i].args.length), ∃ ga, S = some ⟨ga, 0, none⟩ ∧ ga < w.heap.size ∧ wx.cell? ⟨ga, j, none⟩ = some (.int .i64 ns[i].args[j]) := by
  have hne := h.nodes.ne_ints (by decide) h.cls
  obtain ⟨avs, h1, h2, h3, h4, h5⟩ := h.nodes
  have hi' : i < avs.length := by omega
  have hn : ns.length = n := by
    obtain ⟨A, c', e⟩ := own_shape h2
    injection e with _ e _
    exact e.symm
  subst hn
  have ha := h3 i hi hi'
  obtain ⟨S, k, ek⟩ := own_shape ha
  have hk : ns[i].args.length ≤ k ∧ k ≤ maxLen := by
    rcases ha.2 with ⟨e0, h0⟩ | ⟨_, cap, _, e0, _, _, h5, h6, _⟩
    · rw [ek] at e0; injection e0 with _ e0 e1; subst e1; omega
    · rw [ek] at e0; injection e0 with _ _ e1; subst e1; exact ⟨h5, h6⟩
  refine ⟨S, k, hk.1, hk.2, fun wx hg => ?_⟩
  have h2' := h2.kept hg (.inr fun e => hne g e.symm rfl)
  have ha' := ha.kept hg (by
    cases hb : avs[i].ownBlock with
    | none => exact .inl rfl
    | some b => exact .inr fun e => h5 i hi' b hb e.symm)
  have hcell : ∀ k, k < 3 → wx.cell? ⟨g, i * 3 + k, none⟩ = (nodeCells ns[i] avs[i])[k]? := fun k hk => by
    rw [World.ownsRow.cellAt h2' (i * 3 + k) (by omega), rowCells_get hi hi' hk]
  refine ⟨hcell 0 (by omega), hcell 1 (by omega), ?_, fun j hj => ?_⟩
  · rw [hcell 2 (by omega)]; show some avs[i] = _; rw [ek]
  · rw [ek] at ha ha'
    rcases ha.2 with ⟨_, h0⟩ | ⟨ga, cap, cur, e0, _⟩
    · omega
    · injection e0 with e0 _ _
      subst e0
      refine ⟨ga, rfl, (ha.lt ga rfl).2, ?_⟩
      rw [World.ownsRow.cellAt ha' j (by simpa using hj)]
      simp [hj]
/-- the shapes of both rows where there is a node -/
theorem RM.shape (h : RM w B p nv cv ns cl) (hn : cl.length = ns.length) (h0 : 0 < ns.length) : ∃ g c g' c', nv = .slice (some ⟨g, 0, none⟩) ns.length c ∧ cv = .slice (some ⟨g', 0, none⟩) ns.length c' ∧ g < w.heap.size ∧ g' < w.heap.size := by
  obtain ⟨g, c, e, h1, _⟩ := h.node h0
  obtain ⟨g', c', e', h2, _⟩ := h.clsAt (i := 0) (by omega)
  rw [hn] at e'
  exact ⟨g, c, g', c', e, e', h1, h2⟩
theorem RM.clsG {g n c : Nat} (h : RM w B p nv (.slice (some ⟨g, 0, none⟩) n c) ns cl) {i : Nat} (hi : i < cl.length) : w.cell? ⟨g, i, none⟩ = some (.int .i64 cl[i]) ∧ w.frozen? ⟨g, i, none⟩ = false ∧ g < w.heap.size := by
  obtain ⟨g', c', e, h1, h2, h3⟩ := h.clsAt hi
  injection e with e _ _
  injection e with e
  injection e with e
  subst e
  exact ⟨h2, h3, h1⟩
theorem grown_drewN (w : World) (n : Nat) (row : Option Nat) : w.grownBy (w.drewN n) row := ⟨rfl, rfl, rfl, Nat.le_refl _, fun _ _ _ => rfl⟩
/-- a class is stored -/
theorem RM.setC {g n c : Nat} (h : RM w B p nv (.slice (some ⟨g, 0, none⟩) n c) ns cl) (i x : Nat) : RM (w.setCell ⟨g, i, none⟩ (.int .i64 x)) B p nv (.slice (some ⟨g, 0, none⟩) n c) ns (cl.set i x) := by
  have hg := grown_set w g i (.int .i64 x)
  have hn : n = cl.length := by
    obtain ⟨A, c', e⟩ := own_shape h.cls
    injection e
  subst hn
  obtain ⟨s1, s2⟩ := h.cls.stored i (.int .i64 x)
  refine ⟨h.blk.grown hg (fun e => own_ne_blkX h.cls h.blk (by decide) e.symm), h.nodes.keptX hg (fun b e => e) (fun b e => by cases e; exact h.nodes.ne_ints (by decide) h.cls g rfl), ?_, h.low⟩
  unfold natCells at s1 ⊢
  rw [List.length_set, List.map_set]
  exact s1
end
end Go.Proofs.Ytgcbnndbeoekgaa
