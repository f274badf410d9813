import Derived.Test.YtpkapommekkbcaaDoorARight
set_option linter.unusedSimpArgs false
set_option linter.unusedVariables false
namespace Go.Proofs.YtpkapommekkbcaaDoor
open Go Go.RowKit

/-! ### What arena.hangs keeps: counts of kids -/
theorem Keep.both {B : Nat} {F : Nat → Prop} {w a b : World} (ha : Below B w a) (hb : Below B w b) (hF : ∀ x, F x → x < B) : Keep F a b := fun p hp => (Keep.below hb hF p hp).trans (Keep.below ha hF p hp).symm
def HangsM (m : AModel) : Prop := (∀ n ∈ m.nodes, KidsAt m n) ∧ (∀ n ∈ m.nodes, Met m n) ∧ ∀ n ∈ m.nodes, Up m 64 n
def errI (b : Bool) : Int := if b = true then 0 else 29
open Classical in
noncomputable def hangsI (m : AModel) : Int := errI (decide (HangsM m))
open Classical in
theorem hangsI_no {m : AModel} (h : ¬ HangsM m) : hangsI m = 29 := by unfold hangsI; rw [decide_eq_false h]; rfl
open Classical in
theorem hangsI_yes {m : AModel} (h : HangsM m) : hangsI m = 0 := by unfold hangsI; rw [decide_eq_true h]; rfl

theorem int_info : (Tryd.prog.info? 3).map (fun i => (i.zero, i.size, i.bytes)) = some (some (.int .i64 0), 1, 8) := by kernel_rfl
/-- how often each has been met -/
def MetI (w : World) (g : Nat) (l : List Nat) : Prop := Blk w g 3 (l.map fun n : Nat => Value.int .i64 n).toArray
theorem MetI.cell {w : World} {g : Nat} {l : List Nat} (h : MetI w g l) {i : Nat} (hi : i < l.length) : w.cell? ⟨g, i, none⟩ = some (.int .i64 l[i]) := by
  rw [Blk.cell h i]; simp [hi]
theorem MetI.set_ {w : World} {g : Nat} {l : List Nat} (h : MetI w g l) (i : Nat) (b : Nat) : MetI (w.setCell ⟨g, i, none⟩ (.int .i64 b)) g (l.set i b) := by
  have := Blk.set_ h i (.int .i64 b)
  unfold MetI
  rw [List.map_set]
  simpa using this
theorem MetI.made (w : World) (k : Nat) : MetI (w.alloc (.cells (madeCells #[.int .i64 0] k) 3)) w.heap.size (List.replicate k 0) := by
  have e : madeCells #[.int .i64 0] k = ((List.replicate k 0).map fun n : Nat => Value.int .i64 n).toArray := by
    unfold madeCells
    apply Array.ext
    · simp
    · intro i h1 h2
      simp [Nat.mod_one]
  unfold MetI
  rw [← e]; exact Blk.new _ _ _
/-- each node's count among the kids that have been gone through -/
structure Cnt (m : AModel) (done : List Int) (ml : List Nat) : Prop where
  len : ml.length = m.nodes.length
  at_ : ∀ i (h : i < ml.length) (h' : i < m.nodes.length), ml[i] = done.count m.nodes[i].id
theorem Cnt.start (m : AModel) : Cnt m [] (List.replicate m.nodes.length 0) := ⟨by simp, by simp⟩
theorem Cnt.next {m : AModel} {done : List Int} {ml : List Nat} (h : Cnt m done ml) (hs : Srt m.nodes) {i : Nat} (hi : i < m.nodes.length) (hi' : i < ml.length) {k : Int} (e : m.nodes[i].id = k) : Cnt m (done ++ [k]) (ml.set i (ml[i] + 1)) := by
  refine ⟨by rw [List.length_set, h.len], fun j hj hj' => ?_⟩
  rw [List.length_set] at hj
  rw [List.getElem_set, List.count_append]
  by_cases hij : i = j
  · subst hij
    rw [if_pos rfl, h.at_ i hj hj', e]
    simp
  · rw [if_neg hij, h.at_ j hj hj', show List.count m.nodes[j].id [k] = 0 from List.count_eq_zero.2 (fun hm => by rw [List.mem_singleton] at hm; exact hij (hs.inj hi hj' (by omega)))]
    rfl
def KidsUp (m : AModel) (i : Nat) : Prop := ∀ j (h : j < m.nodes.length), j < i → KidsAt m m.nodes[j]
theorem KidsUp.next {m : AModel} {i : Nat} (h : KidsUp m i) (hi : ∀ h : i < m.nodes.length, KidsAt m m.nodes[i]) : KidsUp m (i + 1) := fun j hj hji => by
  rcases Nat.lt_succ_iff_lt_or_eq.1 hji with h' | h'
  · exact h j hj h'
  · subst h'; exact hi hj
theorem KidsUp.all {m : AModel} {i : Nat} (h : KidsUp m i) (hi : ¬ i < m.nodes.length) : ∀ n ∈ m.nodes, KidsAt m n := fun n hn => by
  obtain ⟨j, hj, rfl⟩ := List.getElem_of_mem hn
  exact h j hj (by omega)
def KidTo (m : AModel) (n : ANode) (k : Nat) : Prop := ∀ j (h : j < n.kids.length), j < k → KidAt m n.id n.kids[j]
theorem KidTo.next {m : AModel} {n : ANode} {k : Nat} (h : KidTo m n k) (hk : ∀ h : k < n.kids.length, KidAt m n.id n.kids[k]) : KidTo m n (k + 1) := fun j hj hjk => by
  rcases Nat.lt_succ_iff_lt_or_eq.1 hjk with h' | h'
  · exact h j hj h'
  · subst h'; exact hk hj
theorem KidTo.all {m : AModel} {n : ANode} {k : Nat} (h : KidTo m n k) (hk : ¬ k < n.kids.length) : KidsAt m n := fun x hx => by
  obtain ⟨j, hj, rfl⟩ := List.getElem_of_mem hx
  exact h j hj (by omega)
def doneTo (m : AModel) (i : Nat) : List Int := (m.nodes.take i).flatMap ANode.kids
theorem doneTo_succ {m : AModel} {i : Nat} (h : i < m.nodes.length) : doneTo m (i + 1) = doneTo m i ++ m.nodes[i].kids := by
  unfold doneTo; rw [List.take_succ_eq_append_getElem h, List.flatMap_append]; simp
theorem doneTo_all {m : AModel} {i : Nat} (h : ¬ i < m.nodes.length) (id : Int) : (doneTo m i).count id = cnt m.nodes id := by
  unfold doneTo cnt; rw [List.take_of_length_le (by omega)]
theorem kids_no {m : AModel} {i : Nat} (hi : i < m.nodes.length) {k : Nat} (hk : k < m.nodes[i].kids.length) (h : ¬ KidAt m m.nodes[i].id m.nodes[i].kids[k]) : ¬ HangsM m :=
  fun hh => h (hh.1 _ (List.getElem_mem hi) _ (List.getElem_mem hk))
theorem kidAt_no {m : AModel} {id k : Int} (hn : ∀ i (h : i < m.nodes.length), m.nodes[i].id ≠ k) : ¬ KidAt m id k := by
  rintro ⟨x, hx, e, _⟩
  obtain ⟨j, hj, rfl⟩ := List.getElem_of_mem hx
  exact hn j hj e
theorem kidAt_other {m : AModel} (hs : Srt m.nodes) {id k : Int} {i : Nat} (hi : i < m.nodes.length) (e : m.nodes[i].id = k) (hp : m.nodes[i].parent ≠ id) : ¬ KidAt m id k := by
  rintro ⟨x, hx, e1, e2⟩
  obtain ⟨j, hj, rfl⟩ := List.getElem_of_mem hx
  have := hs.inj hi hj (by omega)
  subst this; exact hp e2
def MetTo (m : AModel) (i : Nat) : Prop := ∀ j (h : j < m.nodes.length), j < i → Met m m.nodes[j]
theorem MetTo.next {m : AModel} {i : Nat} (h : MetTo m i) (hi : ∀ h : i < m.nodes.length, Met m m.nodes[i]) : MetTo m (i + 1) := fun j hj hji => by
  rcases Nat.lt_succ_iff_lt_or_eq.1 hji with h' | h'
  · exact h j hj h'
  · subst h'; exact hi hj
theorem MetTo.all {m : AModel} {i : Nat} (h : MetTo m i) (hi : ¬ i < m.nodes.length) : ∀ n ∈ m.nodes, Met m n := fun n hn => by
  obtain ⟨j, hj, rfl⟩ := List.getElem_of_mem hn
  exact h j hj (by omega)
def UpTo (m : AModel) (i : Nat) : Prop := ∀ j (h : j < m.nodes.length), j < i → Up m 64 m.nodes[j]
theorem UpTo.next {m : AModel} {i : Nat} (h : UpTo m i) (hi : ∀ h : i < m.nodes.length, Up m 64 m.nodes[i]) : UpTo m (i + 1) := fun j hj hji => by
  rcases Nat.lt_succ_iff_lt_or_eq.1 hji with h' | h'
  · exact h j hj h'
  · subst h'; exact hi hj
theorem UpTo.all {m : AModel} {i : Nat} (h : UpTo m i) (hi : ¬ i < m.nodes.length) : ∀ n ∈ m.nodes, Up m 64 n := fun n hn => by
  obtain ⟨j, hj, rfl⟩ := List.getElem_of_mem hn
  exact h j hj (by omega)
/-- whoever has a parent has one that is there -/
theorem parent_there {m : AModel} (hs : Srt m.nodes) (hk : ∀ n ∈ m.nodes, KidsAt m n) (hm : ∀ n ∈ m.nodes, Met m n) {x : ANode} (hx : x ∈ m.nodes) (h0 : x.parent ≠ 0) : ∃ i, ∃ h : i < m.nodes.length, m.nodes[i].id = x.parent := by
  have hc := (hm x hx).2 h0
  obtain ⟨y, hy, hky⟩ := cnt_mem (l := m.nodes) (id := x.id) (by omega)
  obtain ⟨z, hz, e1, e2⟩ := hk y hy _ hky
  obtain ⟨i, hi, rfl⟩ := List.getElem_of_mem hx
  obtain ⟨j, hj, rfl⟩ := List.getElem_of_mem hz
  have := hs.inj hj hi e1
  subst this
  obtain ⟨l, hl, rfl⟩ := List.getElem_of_mem hy
  exact ⟨l, hl, e2.symm⟩
theorem up_next {m : AModel} (hs : Srt m.nodes) {n x : ANode} {f i : Nat} (h : Up m 64 n ↔ Up m (f + 1) x) (h0 : x.parent ≠ 0) (hi : i < m.nodes.length) (e : m.nodes[i].id = x.parent) : Up m 64 n ↔ Up m f m.nodes[i] := by
  rw [h]
  constructor
  · rintro (h1 | ⟨z, hz, e2, hb⟩)
    · exact absurd h1 h0
    · obtain ⟨j, hj, rfl⟩ := List.getElem_of_mem hz
      have := hs.inj hi hj (by omega)
      subst this; exact hb
  · intro hb
    exact .inr ⟨_, List.getElem_mem hi, e, hb⟩
end Go.Proofs.YtpkapommekkbcaaDoor
