import Derived.Test.YtmafhaadcjgcbaaMut
import Derived.Test.YtmafhaadcjgcbaaRegX
import Derived.Test.YtmafhaadcjgcbaaMut2
import Derived.Test.YtmafhaadcjgcbaaHNew
import Derived.Test.YtmafhaadcjgcbaaHTouch
import Derived.Test.YtmafhaadcjgcbaaASameRef
import Derived.Test.YtmafhaadcjgcbaaPastP
import Derived.Test.YtmafhaadcjgcbaaSetP
import Derived.Test.YtmafhaadcjgcbaaAddP
set_option linter.unusedSimpArgs false
set_option linter.unusedVariables false
section
namespace Go.Proofs.Ytmafhaadcjgcbaa
open Go Go.RowKit

end Go.Proofs.Ytmafhaadcjgcbaa
end
section
namespace Go.Proofs.Ytmafhaadcjgcbaa
open Go Go.RowKit

end Go.Proofs.Ytmafhaadcjgcbaa
end
section
/- two models that are made, in whatever order memory is laid -/
namespace Go.Proofs.Ytmafhaadcjgcbaa
open Go Go.RowKit

/-! ### Two models that are made, in whatever order memory is laid -/
def zModelT : Array Value := #[.int .i64 0, .slice none 0 0]
structure JT (W0 w : World) (x7 x8 : Option Nat) (vx vy : Option Value) (a b : AModel) : Prop where
  below : Below W0.heap.size W0 w
  b7 : ∀ p, x7 = some p → W0.heap.size ≤ p ∧ Blk w p 24 zModelT
  b8 : ∀ p, x8 = some p → W0.heap.size ≤ p ∧ Blk w p 24 zModelT
  ne : ∀ p q, x7 = some p → x8 = some q → p ≠ q
  mx : ∀ v, vx = some v → ∃ F : Nat → Prop, IsModel w F v a ∧ ∀ c, F c → W0.heap.size ≤ c ∧ c < w.heap.size ∧ x7 ≠ some c ∧ x8 ≠ some c
  my : ∀ v, vy = some v → ∃ F : Nat → Prop, IsModel w F v b ∧ ∀ c, F c → W0.heap.size ≤ c ∧ c < w.heap.size ∧ x7 ≠ some c ∧ x8 ≠ some c
section
variable {W0 w w' : World} {x7 x8 : Option Nat} {vx vy : Option Value} {a b : AModel}
theorem JT.start (W0 : World) (a b : AModel) : JT W0 W0 none none none none a b :=
  ⟨Below.refl _ _, fun _ h => (by cases h), fun _ h => (by cases h), fun _ _ h => (by cases h), fun _ h => (by cases h), fun _ h => (by cases h)⟩
theorem JT.behind (h : JT W0 w x7 x8 vx vy a b) (hb : Below w.heap.size w w') : JT W0 w' x7 x8 vx vy a b := by
  refine ⟨h.below.trans (hb.mono h.below.size), fun p e => ⟨(h.b7 p e).1, (h.b7 p e).2.below hb (h.b7 p e).2.lt⟩, fun p e => ⟨(h.b8 p e).1, (h.b8 p e).2.below hb (h.b8 p e).2.lt⟩, h.ne, fun v e => ?_, fun v e => ?_⟩
  · obtain ⟨F, h1, h2⟩ := h.mx v e
    exact ⟨F, h1.keep (Keep.below hb (fun b hb => (h2 b hb).2.1)) (fun _ h => h), fun c hc => ⟨(h2 c hc).1, Nat.lt_of_lt_of_le (h2 c hc).2.1 hb.size, (h2 c hc).2.2⟩⟩
  · obtain ⟨F, h1, h2⟩ := h.my v e
    exact ⟨F, h1.keep (Keep.below hb (fun b hb => (h2 b hb).2.1)) (fun _ h => h), fun c hc => ⟨(h2 c hc).1, Nat.lt_of_lt_of_le (h2 c hc).2.1 hb.size, (h2 c hc).2.2⟩⟩
/-- behind the stores -/
theorem JT.done {p q : Nat} {nx ny : Int} {sx sy : Value} (h : JT W0 w (some p) (some q) (some (.agg #[.int .i64 nx, sx])) (some (.agg #[.int .i64 ny, sy])) a b) :
    Below W0.heap.size W0 ((((w.setCell ⟨p, 0, none⟩ (.int .i64 nx)).setCell ⟨p, 1, none⟩ sx).setCell ⟨q, 0, none⟩ (.int .i64 ny)).setCell ⟨q, 1, none⟩ sy) ∧
    Blk ((((w.setCell ⟨p, 0, none⟩ (.int .i64 nx)).setCell ⟨p, 1, none⟩ sx).setCell ⟨q, 0, none⟩ (.int .i64 ny)).setCell ⟨q, 1, none⟩ sy) p 24 #[.int .i64 nx, sx] ∧
    Blk ((((w.setCell ⟨p, 0, none⟩ (.int .i64 nx)).setCell ⟨p, 1, none⟩ sx).setCell ⟨q, 0, none⟩ (.int .i64 ny)).setCell ⟨q, 1, none⟩ sy) q 24 #[.int .i64 ny, sy] ∧
    (∃ F : Nat → Prop, IsModel ((((w.setCell ⟨p, 0, none⟩ (.int .i64 nx)).setCell ⟨p, 1, none⟩ sx).setCell ⟨q, 0, none⟩ (.int .i64 ny)).setCell ⟨q, 1, none⟩ sy) F (.agg #[.int .i64 nx, sx]) a ∧ ∀ c, F c → c < w.heap.size) ∧
    (∃ F : Nat → Prop, IsModel ((((w.setCell ⟨p, 0, none⟩ (.int .i64 nx)).setCell ⟨p, 1, none⟩ sx).setCell ⟨q, 0, none⟩ (.int .i64 ny)).setCell ⟨q, 1, none⟩ sy) F (.agg #[.int .i64 ny, sy]) b ∧ ∀ c, F c → c < w.heap.size) := by
  obtain ⟨hp, hbp⟩ := h.b7 p rfl
  obtain ⟨hq, hbq⟩ := h.b8 q rfl
  have hne := h.ne p q rfl rfl
  have hK : ∀ F : Nat → Prop, (∀ c, F c → c ≠ p ∧ c ≠ q) → Keep F w ((((w.setCell ⟨p, 0, none⟩ (.int .i64 nx)).setCell ⟨p, 1, none⟩ sx).setCell ⟨q, 0, none⟩ (.int .i64 ny)).setCell ⟨q, 1, none⟩ sy) := fun F hF r hr => World.cell?_of_block
    ((((Below.heap_setCell _ _ _ _ (by show r.block ≠ q; exact (hF _ hr).2)).trans (Below.heap_setCell _ _ _ _ (by show r.block ≠ q; exact (hF _ hr).2))).trans (Below.heap_setCell _ _ _ _ (by show r.block ≠ p; exact (hF _ hr).1))).trans (Below.heap_setCell _ _ _ _ (by show r.block ≠ p; exact (hF _ hr).1)))
  refine ⟨(((h.below.setCell (p := ⟨p, 0, none⟩) hp _).setCell (p := ⟨p, 1, none⟩) hp _).setCell (p := ⟨q, 0, none⟩) hq _).setCell (p := ⟨q, 1, none⟩) hq _, ?_, ?_, ?_, ?_⟩
  · have := (((hbp.set_ 0 (.int .i64 nx)).set_ 1 sx).far (p := ⟨q, 0, none⟩) hne (.int .i64 ny)).far (p := ⟨q, 1, none⟩) hne sy
    simpa [zModelT] using this
  · have := (((hbq.far (p := ⟨p, 0, none⟩) (Ne.symm hne) (.int .i64 nx)).far (p := ⟨p, 1, none⟩) (Ne.symm hne) sx).set_ 0 (.int .i64 ny)).set_ 1 sy
    simpa [zModelT] using this
  · obtain ⟨F, h1, h2⟩ := h.mx _ rfl
    exact ⟨F, h1.keep (hK F (fun c hc => ⟨fun e => (h2 c hc).2.2.1 (by rw [e]), fun e => (h2 c hc).2.2.2 (by rw [e])⟩)) (fun _ h => h), fun c hc => (h2 c hc).2.1⟩
  · obtain ⟨F, h1, h2⟩ := h.my _ rfl
    exact ⟨F, h1.keep (hK F (fun c hc => ⟨fun e => (h2 c hc).2.2.1 (by rw [e]), fun e => (h2 c hc).2.2.2 (by rw [e])⟩)) (fun _ h => h), fun c hc => (h2 c hc).2.1⟩
end
end Go.Proofs.Ytmafhaadcjgcbaa
end
section
/- the document's Touched -/
namespace Go.Proofs.Ytmafhaadcjgcbaa
open Go Go.RowKit

section
variable {a b : List ANode} {i k : Nat} {o T : List Int} {x y : ANode}
end

end Go.Proofs.Ytmafhaadcjgcbaa
end
section
/- models are many, or not -/
namespace Go.Proofs.Ytmafhaadcjgcbaa
open Go Go.RowKit

end Go.Proofs.Ytmafhaadcjgcbaa
end
section
/- the law of the nodes in which two models differ -/
namespace Go.Proofs.Ytmafhaadcjgcbaa
open Go Go.RowKit

end Go.Proofs.Ytmafhaadcjgcbaa
end
section
/- the nodes in which two of three models differ: plain -/
namespace Go.Proofs.Ytmafhaadcjgcbaa
open Go Go.RowKit

section
variable {a b c : AModel}
end
end Go.Proofs.Ytmafhaadcjgcbaa
end
section
/- what an edit touches, in plain Lean: a property put or dropped keeps a model right and touches its node at most; a node more keeps it right and touches itself and its parent -/
namespace Go.Proofs.Ytmafhaadcjgcbaa
open Go Go.RowKit

section
variable {α : Type} {f : α → ByteArray} {l : List α} {t : ByteArray} {y : α}
theorem srtN_pair : SrtN f l ↔ l.Pairwise (fun a b => lessS (f a) (f b) = true) :=
  ⟨fun h => List.pairwise_iff_getElem.2 fun i j hi hj hij => h i j hi hj hij, fun h i j hi hj hij => List.pairwise_iff_getElem.1 h i j hi hj hij⟩
theorem setK_srt (h : SrtN f l) (hy : f y = t) : SrtN f (setK f l t y) := by
  have hc := srtN_cut (t := t) h
  have hp := srtN_pair.1 h
  have hr : ∀ b ∈ keepN f (l.drop (cutK f l t)) t, lessS t (f b) = true := fun b hb => by
    obtain ⟨hb1, hb2⟩ := List.mem_filter.1 hb
    obtain ⟨i, hi, rfl⟩ := List.getElem_of_mem hb1
    rw [List.getElem_drop] at hb2 ⊢
    have h1 := hc.2.2 (cutK f l t + i) (by rw [List.length_drop] at hi; omega) (by omega)
    rcases lessS_tri (f (l[cutK f l t + i]'(by rw [List.length_drop] at hi; omega))) t with e | e | e
    · rw [h1] at e; cases e
    · rw [eqT_yes.2 e] at hb2; cases hb2
    · exact e
  refine srtN_pair.2 (List.pairwise_append.2 ⟨hp.sublist (List.take_sublist _ _), List.pairwise_cons.2 ⟨fun b hb => by rw [hy]; exact hr b hb, (hp.sublist (List.drop_sublist _ _)).sublist List.filter_sublist⟩, fun a ha b hb => ?_⟩)
  obtain ⟨i, hi, rfl⟩ := List.getElem_of_mem ha
  rw [List.getElem_take]
  have h1 := hc.2.1 i (by rw [List.length_take] at hi; omega) (by rw [List.length_take] at hi; omega)
  rcases List.mem_cons.1 hb with e | e
  · rw [e, hy]; exact h1
  · exact lessS_trans h1 (hr b e)
theorem setK_mem {x : α} (h : x ∈ setK f l t y) : x ∈ l ∨ x = y := by
  rcases List.mem_append.1 h with h | h
  · exact .inl (List.mem_of_mem_take h)
  · rcases List.mem_cons.1 h with h | h
    · exact .inr h
    · exact .inl (List.mem_of_mem_drop (List.mem_filter.1 h).1)
end
theorem propsOK_iff {l : List AProp} : PropsOK l ↔ (∀ x ∈ l, wordA x.name = true ∧ x.value.size ≤ 4096) ∧ SrtN AProp.name l := by
  refine ⟨fun h => ⟨fun x hx => ?_, props_srt h⟩, fun h i hi => ⟨(h.1 _ (List.getElem_mem hi)).1, (h.1 _ (List.getElem_mem hi)).2, fun h0 => ?_⟩⟩
  · obtain ⟨i, hi, rfl⟩ := List.getElem_of_mem hx
    exact ⟨(h i hi).1, (h i hi).2.1⟩
  · rw [geS_less, h.2 (i - 1) i (by omega) hi (by omega)]; rfl
theorem props_put {l : List AProp} {nm val : ByteArray} (h : PropsOK l) (hw : wordA nm = true) (hv : val.size ≤ 4096) : PropsOK (setK AProp.name l nm ⟨nm, val⟩) := by
  rw [propsOK_iff] at h ⊢
  refine ⟨fun x hx => ?_, setK_srt h.2 rfl⟩
  rcases setK_mem hx with e | e
  · exact h.1 x e
  · subst e; exact ⟨hw, hv⟩
theorem refsOK_mono {l : List ARef} {n n' : Int} (h : RefsOK n l) (hn : n ≤ n') : RefsOK n' l := fun i hi => ⟨(h i hi).1, (h i hi).2.1, by have := (h i hi).2.2.1; omega, (h i hi).2.2.2⟩
theorem refsOK_nil (n : Int) : RefsOK n [] := fun i hi => absurd hi (Nat.not_lt_zero _)
theorem propsOK_nil : PropsOK [] := fun i hi => absurd hi (Nat.not_lt_zero _)
theorem word_some {s : ByteArray} (h : wordA s = true) : s.size ≠ 0 := fun e => by
  have : s.data.toList = [] := by
    have : s.data.toList.length = 0 := e
    exact List.length_eq_zero_iff.1 this
  unfold wordA strip at h
  rw [this] at h
  cases h
theorem up_of_dep {m : AModel} (hi : ∀ i, IdAt m i) : ∀ (f d : Nat) (x : ANode), x ∈ m.nodes → Dep m d x.id → d ≤ f → Up m f x := by
  intro f
  induction f with
  | zero => intro d x _ hd h; have := hd.pos; omega
  | succ f ih =>
    intro d x hx hd h
    rcases hd.next hi hx with ⟨h0, _⟩ | ⟨z, hz, e, h2, hz2⟩
    · exact .inl h0
    · exact .inr ⟨z, hz, e, ih (d - 1) z hz (by rw [e]; exact hz2) (by omega)⟩
/-- each node has its like in the other model -/
def Like (m b : AModel) : Prop := ∀ x ∈ m.nodes, ∃ y ∈ b.nodes, y.id = x.id ∧ y.parent = x.parent
theorem Like.kid {m b : AModel} (h : Like m b) {id k : Int} (hk : KidAt m id k) : KidAt b id k := by
  obtain ⟨x, hx, e1, e2⟩ := hk
  obtain ⟨y, hy, e3, e4⟩ := h x hx
  exact ⟨y, hy, e3.trans e1, e4.trans e2⟩
theorem Like.up {m b : AModel} (h : Like m b) : ∀ (f : Nat) (x : ANode), Up m f x → ∀ x', x'.parent = x.parent → Up b f x' := by
  intro f
  induction f with
  | zero => intro x hu; exact hu.elim
  | succ f ih =>
    intro x hu x' e
    rcases hu with h0 | ⟨z, hz, e2, hz2⟩
    · exact .inl (e.trans h0)
    · obtain ⟨y, hy, e3, e4⟩ := h z hz
      exact .inr ⟨y, hy, by rw [e3, e2, e], ih z hz2 y e4⟩
theorem cnt_set {l : List ANode} {j : Nat} (hj : j < l.length) (y : ANode) (id : Int) : cnt (l.set j y) id + l[j].kids.count id = cnt l id + y.kids.count id := by
  have e : l = l.take j ++ l[j] :: l.drop (j + 1) := by rw [← List.drop_eq_getElem_cons hj, List.take_append_drop]
  have e2 : l.set j y = l.take j ++ y :: l.drop (j + 1) := by rw [List.set_eq_take_append_cons_drop, if_pos hj]
  have h1 : cnt l id = cnt (l.take j) id + (l[j].kids.count id + cnt (l.drop (j + 1)) id) := by
    unfold cnt
    conv => lhs; rw [e]
    rw [List.flatMap_append, List.flatMap_cons, List.count_append, List.count_append]
  have h2 : cnt (l.set j y) id = cnt (l.take j) id + (y.kids.count id + cnt (l.drop (j + 1)) id) := by
    unfold cnt
    rw [e2, List.flatMap_append, List.flatMap_cons, List.count_append, List.count_append]
  omega
section
variable {m : AModel} {j : Nat}
theorem set_check (h : CheckM m) (hj : j < m.nodes.length) {y : ANode} (e1 : y.id = m.nodes[j].id) (e2 : y.parent = m.nodes[j].parent) (e3 : y.role = m.nodes[j].role) (e4 : y.kids = m.nodes[j].kids) (e5 : y.concept = m.nodes[j].concept) (hp : PropsOK y.props) (hr : RefsOK m.next y.refs) : CheckM ⟨m.next, m.nodes.set j y⟩ := by
  obtain ⟨⟨⟨h1, h2, h3⟩, h4⟩, h5, h6, h7, h8⟩ := h
  have hget : ∀ i (hi : i < (m.nodes.set j y).length), (m.nodes.set j y)[i].id = (m.nodes[i]'(by rw [List.length_set] at hi; exact hi)).id := fun i hi => by
    rw [List.getElem_set]
    split
    · rename_i e; subst e; exact e1
    · rfl
  have hmem : ∀ x ∈ m.nodes.set j y, ∃ z ∈ m.nodes, x.id = z.id ∧ x.parent = z.parent ∧ x.kids = z.kids ∧ (x = z ∨ (x = y ∧ z = m.nodes[j])) := fun x hx => by
    rcases List.mem_or_eq_of_mem_set hx with e | e
    · exact ⟨x, e, rfl, rfl, rfl, .inl rfl⟩
    · subst e; exact ⟨m.nodes[j], List.getElem_mem hj, e1, e2, e4, .inr ⟨rfl, rfl⟩⟩
  have hcnt : ∀ id, cnt (m.nodes.set j y) id = cnt m.nodes id := fun id => by
    have := cnt_set hj y id
    rw [e4] at this; omega
  have hlike : Like m ⟨m.next, m.nodes.set j y⟩ := fun x hx => by
    obtain ⟨i, hi, rfl⟩ := List.getElem_of_mem hx
    refine ⟨(m.nodes.set j y)[i]'(by rw [List.length_set]; exact hi), List.getElem_mem _, hget i _, ?_⟩
    rw [List.getElem_set]
    split
    · rename_i e; subst e; exact e2
    · rfl
  refine ⟨⟨⟨h1, h2, by show (m.nodes.set j y).length ≤ _; rw [List.length_set]; exact h3⟩, fun i hi => ?_⟩, fun x hx => ?_, fun x hx k hk => ?_, fun x hx => ?_, fun x hx => ?_⟩
  · have hi' : i < m.nodes.length := by have : i < (m.nodes.set j y).length := hi; rw [List.length_set] at this; exact this
    refine ⟨by rw [hget i hi]; exact (h4 i hi').1, by rw [hget i hi]; exact (h4 i hi').2.1, fun h0 => ?_⟩
    rw [hget i hi, hget (i - 1) (by have : i < (m.nodes.set j y).length := hi; omega)]
    exact (h4 i hi').2.2 h0
  · obtain ⟨z, hz, _, _, _, e | ⟨e, e'⟩⟩ := hmem x hx
    · subst e
      obtain ⟨a1, a2, a3, a4, a5, a6⟩ := h5 x hz
      exact ⟨a1, a2, a3, by show _ ≤ (m.nodes.set j y).length; rw [List.length_set]; exact a4, a5, a6⟩
    · subst e
      obtain ⟨a1, a2, a3, a4, a5, a6⟩ := h5 _ (List.getElem_mem hj)
      exact ⟨by rw [e5]; exact a1, by rw [e2, e3]; exact a2, by rw [e3]; exact a3, by show _ ≤ (m.nodes.set j x).length; rw [List.length_set, e4]; exact a4, hp, hr⟩
  · obtain ⟨z, hz, f1, _, f3, _⟩ := hmem x hx
    rw [f3] at hk
    rw [f1]
    exact hlike.kid (h6 z hz k hk)
  · obtain ⟨z, hz, f1, f2, _, _⟩ := hmem x hx
    refine ⟨fun e => ?_, fun e => ?_⟩
    · show cnt (m.nodes.set j y) x.id = 0
      rw [hcnt, f1]; exact (h7 z hz).1 (f2 ▸ e)
    · show cnt (m.nodes.set j y) x.id = 1
      rw [hcnt, f1]; exact (h7 z hz).2 (f2 ▸ e)
  · obtain ⟨z, hz, _, f2, _, _⟩ := hmem x hx
    exact hlike.up 64 z (h8 z hz) x f2
theorem put_check (h : CheckM m) (hj : j < m.nodes.length) {nm val : ByteArray} (hw : wordA nm = true) (hv : val.size ≤ 4096) : CheckM ⟨m.next, m.nodes.set j (putN nm val m.nodes[j])⟩ :=
  set_check h hj rfl rfl rfl rfl rfl (props_put (h.2.1 _ (List.getElem_mem hj)).2.2.2.2.1 hw hv) (h.2.1 _ (List.getElem_mem hj)).2.2.2.2.2
/-- a node more, under p, or none -/
theorem grow_check (h : CheckM m) {concept role : ByteArray} (hc : wordA concept = true) (hlen : m.nodes.length ≤ 4095) (hnx : m.next ≤ 1048576) {L : List ANode} (hL : L.length = m.nodes.length)
    (hs : ∀ i (hi : i < L.length) (hi' : i < m.nodes.length), L[i].id = m.nodes[i].id ∧ L[i].parent = m.nodes[i].parent ∧ L[i].role = m.nodes[i].role ∧ L[i].concept = m.nodes[i].concept ∧ L[i].props = m.nodes[i].props ∧ L[i].refs = m.nodes[i].refs ∧ L[i].kids.length ≤ m.nodes[i].kids.length + 1)
    (p : Int) (hpr : p = 0 ↔ role.size = 0) (hw : role.size ≠ 0 → wordA role = true)
    (hk : ∀ i (hi : i < L.length) (hi' : i < m.nodes.length), ∀ k ∈ L[i].kids, k ∈ m.nodes[i].kids ∨ (k = m.next ∧ p = m.nodes[i].id))
    (hcnt : ∀ id, cnt L id = cnt m.nodes id + if id = m.next ∧ p ≠ 0 then 1 else 0)
    (hup : p = 0 ∨ ∃ i, ∃ hi : i < m.nodes.length, m.nodes[i].id = p ∧ Up m 63 m.nodes[i]) : CheckM ⟨m.next + 1, L ++ [⟨m.next, concept, p, role, [], [], []⟩]⟩ := by
  obtain ⟨⟨⟨h1, h2, h3⟩, h4⟩, h5, h6, h7, h8⟩ := h
  obtain ⟨n0, hn0⟩ : ∃ n : ANode, n = ⟨m.next, concept, p, role, [], [], []⟩ := ⟨_, rfl⟩
  rw [← hn0]
  have n1 : n0.id = m.next := by rw [hn0]
  have n2 : n0.parent = p := by rw [hn0]
  have n3 : n0.kids = [] := by rw [hn0]
  have hlt : ∀ x ∈ m.nodes, x.id < m.next := fun x hx => by
    obtain ⟨i, hi, rfl⟩ := List.getElem_of_mem hx
    exact (h4 i hi).2.1
  have hlike : Like m ⟨m.next + 1, L ++ [n0]⟩ := fun x hx => by
    obtain ⟨i, hi, rfl⟩ := List.getElem_of_mem hx
    exact ⟨L[i]'(by omega), List.mem_append_left _ (List.getElem_mem _), (hs i (by omega) hi).1, (hs i (by omega) hi).2.1⟩
  have hmem : ∀ x ∈ L ++ [n0], (∃ i, ∃ hi : i < L.length, ∃ _ : i < m.nodes.length, x = L[i]) ∨ x = n0 := fun x hx => by
    rcases List.mem_append.1 hx with hx | hx
    · obtain ⟨i, hi, rfl⟩ := List.getElem_of_mem hx
      exact .inl ⟨i, hi, by omega, rfl⟩
    · exact .inr (List.mem_singleton.1 hx)
  have hct : ∀ id, cnt (L ++ [n0]) id = cnt L id := fun id => by unfold cnt; simp [List.flatMap_append, n3]
  have hold : ∀ x ∈ m.nodes, cnt (L ++ [n0]) x.id = cnt m.nodes x.id := fun x hx => by
    rw [hct, hcnt, if_neg (fun e => by have := hlt x hx; omega)]; rfl
  refine ⟨⟨⟨by show (1 : Int) ≤ m.next + 1; omega, by show m.next + 1 ≤ _; omega, by show (L ++ [n0]).length ≤ _; simp; omega⟩, fun i hi => ?_⟩, fun x hx => ?_, fun x hx k hkk => ?_, fun x hx => ?_, fun x hx => ?_⟩
  · have hi : i < (L ++ [n0]).length := hi
    simp only [List.length_append, List.length_singleton] at hi
    by_cases hi' : i < L.length
    · have e := hs i hi' (by omega)
      have hz := h4 i (by omega)
      refine ⟨?_, ?_, fun h0 => ?_⟩
      · show 1 ≤ ((L ++ [n0])[i]'_).id
        rw [List.getElem_append_left hi', e.1]; exact hz.1
      · show ((L ++ [n0])[i]'_).id < m.next + 1
        rw [List.getElem_append_left hi', e.1]; have := hz.2.1; omega
      · show ((L ++ [n0])[i - 1]'_).id < ((L ++ [n0])[i]'_).id
        rw [List.getElem_append_left hi', List.getElem_append_left (show i - 1 < L.length by omega), e.1, (hs (i - 1) (by omega) (by omega)).1]
        exact hz.2.2 h0
    · have hiL : i = L.length := by omega
      subst hiL
      refine ⟨?_, ?_, fun h0 => ?_⟩
      · show 1 ≤ ((L ++ [n0])[L.length]'_).id
        rw [List.getElem_concat_length rfl, n1]; exact h1
      · show ((L ++ [n0])[L.length]'_).id < m.next + 1
        rw [List.getElem_concat_length rfl, n1]; omega
      · show ((L ++ [n0])[L.length - 1]'_).id < ((L ++ [n0])[L.length]'_).id
        rw [List.getElem_concat_length rfl, List.getElem_append_left (show L.length - 1 < L.length by omega), n1, (hs (L.length - 1) (by omega) (by omega)).1]
        exact hlt _ (List.getElem_mem _)
  · rcases hmem x hx with ⟨i, hi, hi', rfl⟩ | rfl
    · obtain ⟨a1, a2, a3, a4, a5, a6⟩ := h5 _ (List.getElem_mem hi')
      obtain ⟨b1, b2, b3, b4, b5, b6, b7⟩ := hs i hi hi'
      exact ⟨by rw [b4]; exact a1, by rw [b2, b3]; exact a2, by rw [b3]; exact a3, by show _ ≤ (L ++ [n0]).length; simp; omega, by rw [b5]; exact a5, by rw [b6]; exact refsOK_mono a6 (by show m.next ≤ m.next + 1; omega)⟩
    · subst hn0
      exact ⟨hc, hpr, hw, Nat.zero_le _, propsOK_nil, refsOK_nil _⟩
  · rcases hmem x hx with ⟨i, hi, hi', rfl⟩ | rfl
    · rw [(hs i hi hi').1]
      rcases hk i hi hi' k hkk with e | ⟨e, e'⟩
      · exact hlike.kid (h6 _ (List.getElem_mem hi') k e)
      · exact ⟨n0, List.mem_append_right _ (List.mem_singleton_self _), n1.trans e.symm, n2.trans e'⟩
    · rw [n3] at hkk; cases hkk
  · rcases hmem x hx with ⟨i, hi, hi', rfl⟩ | rfl
    · have e := hs i hi hi'
      refine ⟨fun e0 => ?_, fun e0 => ?_⟩
      · show cnt (L ++ [n0]) L[i].id = 0
        rw [e.1, hold _ (List.getElem_mem hi')]; exact (h7 _ (List.getElem_mem hi')).1 (e.2.1 ▸ e0)
      · show cnt (L ++ [n0]) L[i].id = 1
        rw [e.1, hold _ (List.getElem_mem hi')]; exact (h7 _ (List.getElem_mem hi')).2 (e.2.1 ▸ e0)
    · have hz : cnt m.nodes m.next = 0 := List.count_eq_zero.2 fun hc => by
        obtain ⟨z, hz, hkz⟩ := List.mem_flatMap.1 hc
        obtain ⟨u, hu, e, _⟩ := h6 z hz _ hkz
        have := hlt u hu; omega
      refine ⟨fun e0 => ?_, fun e0 => ?_⟩
      · show cnt (L ++ [x]) x.id = 0
        rw [hct, n1, hcnt, hz, if_neg (fun e => e.2 (n2 ▸ e0))]
      · show cnt (L ++ [x]) x.id = 1
        rw [hct, n1, hcnt, hz, if_pos ⟨rfl, n2 ▸ e0⟩]
  · rcases hmem x hx with ⟨i, hi, hi', rfl⟩ | rfl
    · exact hlike.up 64 _ (h8 _ (List.getElem_mem hi')) _ (hs i hi hi').2.1
    · rcases hup with e | ⟨i, hi, e, hu⟩
      · exact .inl (n2.trans e)
      · exact .inr ⟨L[i]'(by omega), List.mem_append_left _ (List.getElem_mem _), by rw [(hs i (by omega) hi).1, e, n2], hlike.up 63 _ hu _ (hs i (by omega) hi).2.1⟩
theorem addRoot_check (h : CheckM m) {concept : ByteArray} (hc : wordA concept = true) (hlen : m.nodes.length ≤ 4095) (hnx : m.next ≤ 1048576) : CheckM (addRoot m concept) :=
  grow_check h hc hlen hnx (L := m.nodes) rfl (fun i hi hi' => ⟨rfl, rfl, rfl, rfl, rfl, rfl, Nat.le_succ _⟩) 0 ⟨fun _ => rfl, fun _ => rfl⟩ (fun e => absurd rfl e) (fun i hi hi' k hk => .inl hk) (fun id => by rw [if_neg (fun e => e.2 rfl)]; rfl) (.inl rfl)
theorem addKid_check (h : CheckM m) (hj : j < m.nodes.length) {concept role : ByteArray} (hc : wordA concept = true) (hw : wordA role = true) (hlen : m.nodes.length ≤ 4095) (hnx : m.next ≤ 1048576) {d : Nat} (hd : Dep m d m.nodes[j].id) (h64 : d ≤ 63) (i : Nat) : CheckM (addKid m j m.nodes[j] i concept role) := by
  have hid : 1 ≤ m.nodes[j].id := (h.1.2 j hj).1
  refine grow_check h hc hlen hnx (L := m.nodes.set j { m.nodes[j] with kids := insAt m.nodes[j].kids i m.next }) (List.length_set ..) (fun i' hi hi' => ?_) m.nodes[j].id ⟨fun e => by omega, fun e => absurd e (word_some hw)⟩ (fun _ => hw) (fun i' hi hi' k hk => ?_) (fun id => ?_) (.inr ⟨j, hj, rfl, up_of_dep h.1.2 63 d _ (List.getElem_mem hj) hd h64⟩)
  · rw [List.getElem_set]
    split
    · rename_i e; subst e
      refine ⟨rfl, rfl, rfl, rfl, rfl, rfl, ?_⟩
      show (insAt m.nodes[j].kids i m.next).length ≤ _
      unfold insAt
      simp only [List.length_append, List.length_cons, List.length_take, List.length_drop]
      omega
    · exact ⟨rfl, rfl, rfl, rfl, rfl, rfl, Nat.le_succ _⟩
  · rw [List.getElem_set] at hk
    split at hk
    · rename_i e; subst e
      rcases List.mem_append.1 (show k ∈ (m.nodes[j].kids.take i) ++ m.next :: m.nodes[j].kids.drop i from hk) with e | e
      · exact .inl (List.mem_of_mem_take e)
      · rcases List.mem_cons.1 e with e | e
        · exact .inr ⟨e, rfl⟩
        · exact .inl (List.mem_of_mem_drop e)
    · exact .inl hk
  · have e := cnt_set hj { m.nodes[j] with kids := insAt m.nodes[j].kids i m.next } id
    have e2 : (insAt m.nodes[j].kids i m.next).count id = m.nodes[j].kids.count id + if id = m.next ∧ m.nodes[j].id ≠ 0 then 1 else 0 := by
      unfold insAt
      conv => rhs; rw [← List.take_append_drop i m.nodes[j].kids]
      rw [List.count_append, List.count_append, List.count_cons]
      by_cases hh : id = m.next
      · subst hh
        rw [if_pos (by simp), if_pos ⟨rfl, by omega⟩]; omega
      · rw [if_neg (by simpa using fun e => hh e.symm), if_neg (fun e => hh e.1)]; omega
    have e3 : cnt (m.nodes.set j { m.nodes[j] with kids := insAt m.nodes[j].kids i m.next }) id + m.nodes[j].kids.count id = cnt m.nodes id + (insAt m.nodes[j].kids i m.next).count id := e
    rw [e2] at e3
    omega
/-! ### What is touched -/
end
end Go.Proofs.Ytmafhaadcjgcbaa
end
