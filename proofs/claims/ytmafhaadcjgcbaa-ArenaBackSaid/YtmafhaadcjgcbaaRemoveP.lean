import Derived.Test.YtmafhaadcjgcbaaMoveQ
import Derived.Test.YtmafhaadcjgcbaaDelQ
import Derived.Sort.OwnSortedInts
set_option linter.unusedSimpArgs false
set_option linter.unusedVariables false
/- a node is taken away with all below it: what of it is plain; numbers are sorted and found by the Shelf; arena.Remove's own question -/
namespace Go.Proofs.Ytmafhaadcjgcbaa
open Go Go.RowKit Go.Sort

theorem sortOwn_any (v : Value) (l : List Int) (w : World) (base : Nat) (h : OwnI w base v l) (hl : l.length < 4611686018427387904) :
    Calls Try.prog 105 #[v] w fun e w' => e = .returned (.tuple #[]) ∧ OwnI w' base v (l.mergeSort fun x y => decide (x ≤ y)) ∧ w.grownBy w' v.ownBlock := by
  unfold OwnI at h
  rcases h.2 with ⟨rfl, h0⟩ | ⟨g, cap, cur, rfl, hbase, hb, h1, h2, h3, h4⟩
  · obtain rfl := List.eq_nil_of_length_eq_zero h0
    refine (Try.slices_Sort_int_none none 0 w).mono ?_
    rintro e w' ⟨rfl, rfl⟩
    exact ⟨rfl, by simpa using OwnI.nil _ base, World.grownBy.refl _ _⟩
  · have hH := holds_of_blockI (e := 3) (ss := l) hb (by simpa using h4)
    refine (Try.slices_Sort_int g 0 cap l w hH (Array.getElem?_eq_some_iff.1 hb).1 hl).mono ?_
    rintro e w' ⟨rfl, n, os, rfl⟩
    have hlen : (l.mergeSort fun x y => decide (x ≤ y)).length = l.length := by simp
    refine ⟨rfl, ?_, grownBy_sortedI _⟩
    have := ownsRow_sortedI (n := n) (os := os) (ss := l) (ts := l.mergeSort fun x y => decide (x ≤ y)) hlen hbase hb h1 h2 h3
    unfold OwnI
    simpa using this

theorem found_any (A : Option Addr) (c : Nat) (l : List Int) (x : Int) (w : World) (F : Nat → Prop) (h : RowOf 1 EInt w F A l) (hl : l.length < 4611686018427387904) (hs : l.Pairwise (· ≤ ·)) :
    Calls Try.prog 108 #[.slice A l.length c, .int .i64 x] w fun e w' => ∃ k : Int, e = .returned (.tuple #[.int .i64 k, .bool (decide (x ∈ l))]) ∧ Below w.heap.size w w' := by
  cases l with
  | nil =>
    refine (Try.slices_BinarySearch_int_empty A c x w).mono ?_
    rintro e w' ⟨rfl, rfl⟩
    exact ⟨0, rfl, Below.refl _ _⟩
  | cons y r =>
    obtain ⟨b, off, rfl, _⟩ := h.1 (by simp)
    refine (Try.slices_BinarySearch_int b off (y :: r).length c (y :: r) x w (Nat.le_refl _) hl (fun j hj => ?_) (by rw [List.take_length]; exact hs)).mono ?_
    · obtain ⟨b', off', e, _, h2⟩ := int_at h hj
      injection e with e
      injection e with e1 e2
      subst e1; subst e2
      rw [h2]
      congr 2
      rw [List.getD_eq_getElem?_getD, List.getElem?_eq_getElem hj]; rfl
    · rintro e w' ⟨rfl, q, rfl⟩
      exact ⟨_, by rw [List.take_length, List.contains_eq_mem], below_drewN (Below.refl _ _) _⟩

theorem remove1_any (x : LN) (hsh : ShapeL x) (g : Nat) (A : Option Addr) (c : Nat) (l : List Int) (w : World) (F : Nat → Prop) (hF : ∀ b, F b → b < w.heap.size) (h : RowOf 1 EInt w F A l) (hl : l.length < 4611686018427387904) (hs : l.Pairwise (· ≤ ·)) (hg : Blk w g 35 #[.slice A l.length c]) :
    Calls Try.prog 107 #[.agg x.cells.toArray, .pointer (some ⟨g, 0, none⟩)] w fun e w' => e = .returned (.bool (decide (x.n.id ∈ l))) ∧ Below w.heap.size w w' := by
  obtain ⟨Ap, np, cp, Ak, nk, ck, Ar, nr, cr, e1, e2, e3⟩ := hsh
  have HB0 := Lib.hid ((Below.refl w.heap.size w).alloc (Nat.le_refl _) (.cells x.cells.toArray 38))
  have HFA := Lib.hid (fun (w' : World) (hb : Below w.heap.size w w') => found_any A c l x.n.id w' F (RowOf.keep EInt.stays (Keep.below hb hF) (fun _ h => h) h) hl hs)
  have hlt := hg.lt
  have HG := Lib.hid (hg.alloc (.cells x.cells.toArray 38))
  have HX := Lib.hid (Blk.new w 38 x.cells.toArray)
  clear h hg
  simp only [LN.cells, nodeCellsA, e1, e2, e3] at HB0 HG HX ⊢
  have c0 := HG.out.cell 0
  have x0 := HX.out.cell 0
  simp at c0 x0
  go_enter Try.func107, Try.ntmps107
  go_wp2_with fail
  refine (HFA.out _ HB0.out).mono ?_
  rintro _ w2 ⟨k, rfl, hb⟩
  have HB2 := Lib.hid (HB0.out.trans (hb.mono HB0.out.size))
  clear hb
  go_wp2
  go_ret
  exact ⟨rfl, HB2.out⟩

theorem sub_flat (p : LN → Bool) : ∀ l : List LN, List.Sublist (allBlocks (keepQ p l)) (allBlocks l)
  | [] => by simp [keepQ, allBlocks]
  | x :: r => by
    have ih := sub_flat p r
    unfold allBlocks keepQ at ih ⊢
    rw [List.filter_cons]
    split
    · rw [List.flatMap_cons, List.flatMap_cons]; exact (List.Sublist.refl _).append ih
    · rw [List.flatMap_cons]; exact ih.trans (List.sublist_append_right _ _)
/-- a model of the call's own loses nodes -/
theorem OwnM.drop_nodes {w w' : World} {base : Nat} {v v' : Value} {l : List LN} (h : OwnM w base v l) (p : LN → Bool) (hrow : w'.ownsRow base 38 7 v' (keepQ p l).length ((keepQ p l).flatMap LN.cells)) (hg : w.grownBy w' v.ownBlock) (hv : v'.ownBlock = v.ownBlock) : OwnM w' base v' (keepQ p l) := by
  have hsub : List.Sublist (keepQ p l) l := List.filter_sublist
  have hall := sub_flat p l
  refine ⟨hrow, fun x hx => ?_, fun b => ?_⟩
  · have hx2 := hsub.subset hx
    refine (h.lists x hx2).keep fun b hb => ?_
    refine hg.block b ((h.lists x hx2).lt b hb).2 fun e => ?_
    have h1 := h.dis b
    rw [← e, List.count_cons_self] at h1
    have h2 := List.count_pos_iff.2 (mem_all hx2 hb)
    omega
  · rw [hv]
    exact Nat.le_trans ((hall.cons_cons v.ownBlock).count_le (some b)) (h.dis b)

/-! ### what Remove makes -/
open Classical in
noncomputable def removeE (m : AModel) (id : Int) : Int := if ¬ CheckM m then 29 else if atI m.nodes id < 0 then 20 else 0
noncomputable def removeL (m : AModel) (id : Int) : List ANode := (mu m (nodeOf m id)).nodes.filter fun y => !decide (y.id ∈ belowL m id ++ [id])
section
variable {m : AModel} {id : Int}
open Classical in
theorem removeE_check (h : ¬ CheckM m) : removeE m id = 29 := if_pos h
open Classical in
theorem removeE_node (h : CheckM m) (hn : atI m.nodes id < 0) : removeE m id = 20 := by unfold removeE; rw [if_neg (fun e => e h), if_pos hn]
open Classical in
theorem removeE_ok (h : CheckM m) (hn : ¬ atI m.nodes id < 0) : removeE m id = 0 := by unfold removeE; rw [if_neg (fun e => e h), if_neg hn]
end
theorem map_keepQ (p : Int → Bool) (l : List LN) : (keepQ (fun x => p x.n.id) l).map LN.n = (l.map LN.n).filter fun y => !p y.id := by
  unfold keepQ
  rw [List.filter_map]; rfl
end Go.Proofs.Ytmafhaadcjgcbaa
