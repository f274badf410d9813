import Derived.Test.YtmafhaadcjgcbaaCopyP
import Derived.Test.YtmafhaadcjgcbaaMut2
import Derived.Test.YtmafhaadcjgcbaaMemN
import Derived.Test.YtmafhaadcjgcbaaMove
import Derived.Test.YtmafhaadcjgcbaaTwinA
import Derived.Test.YtmafhaadcjgcbaaRegZ
set_option linter.unusedSimpArgs false
set_option linter.unusedVariables false
section
/- what the walks of Copy lean on -/
namespace Go.Proofs.Ytmafhaadcjgcbaa
open Go Go.RowKit

section
variable {w : World} {base : Nat} {v : Value} {l : List Int}
/-- a row of numbers more, in the text's order -/
theorem wpList_joinI {ops : Array Oper} {rest : List Oper} {o : Oper} {a : Act} {Q : Exit → Act → World → Prop} (hgd : o.guard = none) (s x : Operand)
    (ho : o.op = .call { callee := .builtin .append, args := #[s, x], argTypes := #[35, 35] }) (hs : a.eval s = v) (hown : OwnI w base v l) (A : Option Addr) (c : Nat) (l2 : List Int) (F : Nat → Prop) (hx : a.eval x = .slice A l2.length c) (hrow : RowOf 1 EInt w F A l2)
    (hl : l.length + l2.length ≤ 1048576) (hbase : base ≤ w.heap.size)
    (h : ∀ A' c' w', OwnI w' base (.slice A' (l.length + l2.length) c') (l ++ l2) → w.grownBy w' v.ownBlock → ((Value.slice A' (l.length + l2.length) c').ownBlock = v.ownBlock ∨ (Value.slice A' (l.length + l2.length) c').ownBlock = some w.heap.size) → wpList Try.prog ops Q rest (a.put o.dst (.slice A' (l.length + l2.length) c')) w') : wpList Try.prog ops Q (o :: rest) a w :=
  wpList_append_from w hgd s x 35 ho base 3 Try.underlying35 int_info rfl (by omega) v l.length (l.map (Value.int .i64)) hs hown A l2.length c (l2.map (Value.int .i64)) hx (by simp) (fun e => by subst e; rw [hrow.none_nil]; rfl)
    (fun ad e => by have := hrow.cellsFrom intCells_len ad e; rw [intCells_map] at this; exact this) (by simp [Value.oneCell']) (by unfold maxLen; omega) (by omega) hbase
    fun A' c' w' h2 h3 h4 => h A' c' w' (by unfold OwnI; simpa using h2) h3 h4
end
/-- what is owned, where but blocks that it does not own have changed -/
theorem OwnM.aside {w w' : World} {base : Nat} {v : Value} {l : List LN} (h : OwnM w base v l) (hk : ∀ b, some b ∈ (v.ownBlock :: allBlocks l) → w'.heap[b]? = w.heap[b]?) : OwnM w' base v l :=
  ⟨own_keep h.row fun b e => hk b (by rw [e]; exact List.mem_cons_self ..), fun _ hx => (h.lists _ hx).keep fun b e => hk b (List.mem_cons_of_mem _ (mem_all hx e)), h.dis⟩
/-- a list whose first i elements are changed -/
def partTo {α : Type} (f : α → α) (l : List α) (i : Nat) : List α := (l.take i).map f ++ l.drop i
section
variable {α : Type} {f : α → α} {l : List α}
theorem partTo_len (i : Nat) : (partTo f l i).length = l.length := by unfold partTo; simp; omega
theorem partTo_zero : partTo f l 0 = l := by simp [partTo]
theorem partTo_all {i : Nat} (h : l.length ≤ i) : partTo f l i = l.map f := by unfold partTo; rw [List.take_of_length_le h, List.drop_eq_nil_of_le h, List.append_nil]
theorem partTo_at {i : Nat} (h : i < l.length) : (partTo f l i)[i]'(by rw [partTo_len]; exact h) = l[i] := by
  unfold partTo
  rw [List.getElem_append_right (by simp; omega)]
  simp [Nat.min_eq_left (Nat.le_of_lt h)]
theorem partTo_set {i : Nat} (h : i < l.length) : (partTo f l i).set i (f l[i]) = partTo f l (i + 1) := by
  unfold partTo
  have hl : ((l.take i).map f).length = i := by simp; omega
  rw [List.set_append_right _ _ (by omega), hl, Nat.sub_self, List.drop_eq_getElem_cons h, List.set_cons_zero, List.take_succ_eq_append_getElem h, List.map_append, List.append_assoc]
  rfl
theorem partTo_skip {i : Nat} (h : i < l.length) (e : f l[i] = l[i]) : partTo f l i = partTo f l (i + 1) := by
  rw [← partTo_set h, e]
  apply List.ext_getElem
  · simp
  · intro j h1 h2
    by_cases hij : i = j
    · subst hij; rw [List.getElem_set_self, partTo_at h]
    · rw [List.getElem_set_ne hij]
end
end Go.Proofs.Ytmafhaadcjgcbaa
end
section
/- the map of a copy's numbers -/
namespace Go.Proofs.Ytmafhaadcjgcbaa
open Go Go.RowKit Go.Maps

/-- the numbers of the first copies -/
def valsTo (nx : Int) (ks : List Int) : Nat → List (Int × Value)
  | 0 => []
  | j + 1 => valsTo nx ks j ++ [(ks.getD j 0, .int .i64 (nx + j))]
section
variable {nx : Int} {ks : List Int}
theorem vals_mem {j : Nat} {p : Int × Value} (h : p ∈ valsTo nx ks j) : ∃ i, i < j ∧ p = (ks.getD i 0, .int .i64 (nx + i)) := by
  induction j with
  | zero => simp [valsTo] at h
  | succ j ih =>
    rcases List.mem_append.1 h with h | h
    · obtain ⟨i, hi, e⟩ := ih h; exact ⟨i, by omega, e⟩
    · exact ⟨j, by omega, by simpa using h⟩
theorem vals_in {j i : Nat} (h : i < j) : (ks.getD i 0, Value.int .i64 (nx + i)) ∈ valsTo nx ks j := by
  induction j with
  | zero => omega
  | succ j ih =>
    by_cases hi : i < j
    · exact List.mem_append_left _ (ih hi)
    · have e : i = j := by omega
      subst e
      exact List.mem_append_right _ (by simp)
theorem getD_lt {i : Nat} (h : i < ks.length) : ks.getD i 0 = ks[i] := by rw [List.getD_eq_getElem?_getD, List.getElem?_eq_getElem h]; rfl
theorem vals_new (hn : ks.Nodup) {j : Nat} (hj : j < ks.length) : ∀ q ∈ valsTo nx ks j, q.1 ≠ ks.getD j 0 := fun q hq e => by
  obtain ⟨i, hi, rfl⟩ := vals_mem hq
  have e2 : ks[i] = ks[j] := by rw [← getD_lt, ← getD_lt]; exact e
  have := nodup_inj hn _ _ e2
  omega
theorem vals_yes (hn : ks.Nodup) {k : Int} (hk : k ∈ ks) : lookM (.int .i64 0) (valsTo nx ks ks.length) k = .int .i64 (nx + idxI ks k) := by
  rcases idxI_cases ks k with ⟨q, hq, e0, e, _⟩ | ⟨h2, _⟩
  · obtain ⟨p, hp, e1, e2⟩ := lookM_mem (z := .int .i64 0) (bs := valsTo nx ks ks.length) (id := k) ⟨_, vals_in hq, by rw [getD_lt hq]; exact e0⟩
    rw [e2]
    obtain ⟨i, hi, rfl⟩ := vals_mem hp
    have e3 : ks[i] = ks[q] := by rw [e0, ← getD_lt]; exact e1
    have := nodup_inj hn _ _ e3
    rw [e, this]
  · exact absurd hk h2
theorem vals_no {k : Int} (hk : k ∉ ks) : lookM (.int .i64 0) (valsTo nx ks ks.length) k = .int .i64 0 :=
  lookM_not fun p hp e => by
    obtain ⟨i, hi, rfl⟩ := vals_mem hp
    exact hk (by rw [← e, getD_lt hi]; exact List.getElem_mem hi)
theorem vals_has {k : Int} : (∃ p ∈ valsTo nx ks ks.length, p.1 = k) ↔ k ∈ ks := by
  constructor
  · rintro ⟨p, hp, rfl⟩
    obtain ⟨i, hi, rfl⟩ := vals_mem hp
    rw [getD_lt hi]; exact List.getElem_mem hi
  · intro hk
    obtain ⟨i, hi, rfl⟩ := List.getElem_of_mem hk
    exact ⟨_, vals_in hi, getD_lt hi⟩
end
/-- what is found at a number: 0 where there is none -/
def anewI (nx : Int) (ks : List Int) (k : Int) : Int := if k ∈ ks then nx + idxI ks k else 0
section
variable {w : World} {b n : Nat} {D : DataW Value} {nx : Int} {ks : List Int}
set_option maxRecDepth 100000 in
theorem anew_run (hown : w.ownsMap Try.prog 3 heldM b n D) (hD : MapV D (valsTo nx ks ks.length)) (hn : ks.Nodup) {id : Int} (hin : InI id) :
    (Instr.lookup 112 (.map (some b)) (.int .i64 id) false).run Try.prog w = .ok (.int .i64 (anewI nx ks id)) w := by
  rw [look_run (z := .int .i64 0) hown hD Try.underlying112 (zero_int _) hin]
  unfold anewI
  split
  · rw [vals_yes hn (by assumption)]
  · rw [vals_no (by assumption)]
set_option maxRecDepth 100000 in
theorem anew_ok_run (hown : w.ownsMap Try.prog 3 heldM b n D) (hD : MapV D (valsTo nx ks ks.length)) (hn : ks.Nodup) {id : Int} (hin : InI id) :
    (Instr.lookup 112 (.map (some b)) (.int .i64 id) true).run Try.prog w = .ok (.tuple #[.int .i64 (anewI nx ks id), .bool (ks.contains id)]) w := by
  obtain ⟨v, ps, hrun, hv⟩ := hown.look_ok (z := .int .i64 0) lawM Try.underlying112 (zero_int _) (zd := .held (.int .i64 0)) (zp := []) rfl (keyM hin)
  rw [hrun]
  have h2 : DataW.held v = D.atKey (kM id) (.held (.int .i64 0)) := by
    unfold heldM at hv
    injection hv with hv
    exact (Prod.mk.inj hv).1
  rw [hD.look] at h2
  injection h2 with h2
  rw [h2]
  have h3 : Maps.has D (.int .i64 id) = ks.contains id := by
    rw [Bool.eq_iff_iff]
    refine (hD.has_ id).trans (vals_has.trans ?_)
    simp
  rw [h3]
  unfold anewI
  split
  · rw [vals_yes hn (by assumption)]
  · rw [vals_no (by assumption)]
end
end Go.Proofs.Ytmafhaadcjgcbaa
namespace Go.Proofs.Ytmafhaadcjgcbaa
open Go Go.RowKit Go.Maps
section
variable {m : AModel} {x : ANode}
/-- the first copy stands behind all that there were -/
theorem copies_at0 (h : CheckM m) (hf : m.next + (ksL m x.id).length ≤ 1048577) : ∃ y, (m.nodes ++ copiesTo m (ksL m x.id) (ksL m x.id).length)[m.nodes.length]? = some y ∧ y.parent = 0 ∧ y.id = m.next ∧ atI (m.nodes ++ copiesTo m (ksL m x.id) (ksL m x.id).length) m.next = m.nodes.length := by
  have hk : 0 < (ksL m x.id).length := by simp [ksL]
  have e : (m.nodes ++ copiesTo m (ksL m x.id) (ksL m x.id).length)[m.nodes.length]? = some (copyN m (ksL m x.id) 0 (nodeOf m ((ksL m x.id).getD 0 0))) := by
    rw [List.getElem?_append_right (Nat.le_refl _), Nat.sub_self, List.getElem?_eq_getElem (by rw [copies_len]; exact hk), copies_at _ _ _ 0 hk]
  have hid : (copyN m (ksL m x.id) 0 (nodeOf m ((ksL m x.id).getD 0 0))).id = m.next := by show m.next + ((0 : Nat) : Int) = m.next; omega
  refine ⟨_, e, rfl, hid, ?_⟩
  obtain ⟨hlt, e2⟩ := List.getElem?_eq_some_iff.1 e
  exact atI_some (copies_srt (x := x) h hf (Nat.le_refl _)).1 hlt (by rw [e2]; exact hid)
end
end Go.Proofs.Ytmafhaadcjgcbaa
end
section
/- arena.Copy -/
namespace Go.Proofs.Ytmafhaadcjgcbaa
open Go Go.RowKit Go.Maps

set_option maxRecDepth 100000 in
set_option maxHeartbeats 8000000 in
theorem copyA_any (A : Option Addr) (c : Nat) (m : AModel) (w : World) (F : Nat → Prop) (hF : ∀ b, F b → b < w.heap.size) (h : RowOf 7 ENode w F A m.nodes) (hz : ∀ x ∈ m.nodes, NodeOK x) (hz' : ∀ x ∈ m.nodes, LensOK x) (hl : m.nodes.length ≤ 9223372036854775807) (id : Int) (hid : InR id) (p : Int) (hpi : InR p) (role : ByteArray) (hns : role.size ≤ 9223372036854775807) (a : Int) (ha : InR a) :
  Calls Try.prog 49 #[.agg #[.int .i64 m.next, .slice A m.nodes.length c], .int .i64 id, .int .i64 p, .string role, .int .i64 a] w fun e w' => (∃ v, e = .returned v ∧ ResCopyO w' w.heap.size m.next (ksL m id).length (copyE m id p role a) (copyL m id p role a) v) ∧ Below w.heap.size w w' := by
 obtain ⟨EE, hEE⟩ : ∃ EE, copyE m id p role a = EE := ⟨_, rfl⟩
 obtain ⟨LL, hLL⟩ : ∃ LL, copyL m id p role a = LL := ⟨_, rfl⟩
 rw [hEE, hLL]
 have HEE := Lib.hid hEE; have HLL := Lib.hid hLL
 clear hEE hLL
 have HH := Lib.hid h; have HZ := Lib.hid hz; have HZ' := Lib.hid hz'; have HLB := Lib.hid hl
 obtain ⟨n, hn⟩ : ∃ n, m.nodes.length = n := ⟨_, rfl⟩
 have HN := Lib.hid hn
 rw [hn] at hl ⊢
 clear h hz hz' hn
 have HRW : Hid (∀ w', Below w.heap.size w w' → RowOf 7 ENode w' F A m.nodes) := Lib.hid (fun w' hb => HH.out.keep ENode.stays (Keep.below hb hF) (fun _ h => h))
 have HFW : Hid (∀ w', Below w.heap.size w w' → ∀ b, F b → b < w'.heap.size) := Lib.hid (fun w' hb b h => Nat.lt_of_lt_of_le (hF b h) hb.size)
 have HCK := Lib.hid (fun (w' : World) (hb : Below w.heap.size w w') => check_any A c m w' F (HFW.out _ hb) (HRW.out _ hb) HZ.out HLB.out)
 rw [HN.out] at HCK
 obtain ⟨u0, hu0⟩ : ∃ u : World, (w.alloc (.cells #[.int .i64 m.next, .slice A n c] 24)).alloc (.cells #[.int .i64 0, .slice none 0 0] 24) = u := ⟨_, rfl⟩
 have MM : Hid (Mem w u0 ([.blk w.heap.size 24 #[.int .i64 m.next, .slice A n c], .blk (w.heap.size + 1) 24 #[.int .i64 0, .slice none 0 0]])) := Lib.hid (by
  rw [← hu0]
  have h := ((Mem.start w).allocG rfl #[.int .i64 m.next, .slice A n c] 24).allocG (g := w.heap.size + 1) (by simp) #[.int .i64 0, .slice none 0 0] 24
  exact h.pick0 [1, 0] _ (by decide) rfl)
 have HU0 := Lib.hid hu0
 clear hu0
 by_cases hc : CheckM m
 rotate_left 1
 ·have E := Lib.hid (show EE = 29 from HEE.out.symm.trans (copyE_check hc))
  rw [checkI_no hc] at HCK
  clear hc
  go_enter Try.func49, Try.ntmps49
  go_wp2_with fail
  (try rw [HU0.out])
  clear HU0
  refine (HCK.out _ MM.out.below).mono ?_
  rintro _ u1 ⟨rfl, hb⟩
  have MM2 : Hid (Mem w u1 ([.blk w.heap.size 24 #[.int .i64 m.next, .slice A n c], .blk (w.heap.size + 1) 24 #[.int .i64 0, .slice none 0 0]])) := Lib.hid (MM.out.call hb)
  clear MM
  have MM := MM2
  clear MM2
  clear hb
  have HRR := Lib.hid (MM.out.blk 1 rfl)
  have t0 := HRR.out.frozen 0; have t1 := HRR.out.frozen 1
  have r0 := HRR.out.cell 0; have r1 := HRR.out.cell 1
  have hrlt := HRR.out.lt
  simp at r0 r1
  go_wp2_with fail
  have hyS := (HRR.out.set_ 0 (.int .i64 0)).set_ 1 (.slice none 0 0)
  have f0 := hyS.cell 0; have f1 := hyS.cell 1
  simp at f0 f1
  have HBW := Lib.hid ((MM.out.below.setCell (p := ⟨w.heap.size + 1, 0, none⟩) (by show w.heap.size ≤ w.heap.size + 1; omega) (.int .i64 0)).setCell (p := ⟨w.heap.size + 1, 1, none⟩) (by show w.heap.size ≤ w.heap.size + 1; omega) (.slice none 0 0))
  exact bodyPost_ret (v := .tuple #[.agg #[.int .i64 0, .slice none 0 0], .int .i64 0, .int .i64 (29)]) (by simp [results, Try.results49, go_sem, f0, f1]) rfl ⟨⟨_, rfl, Or.inl ⟨by rw [E.out]; decide, by rw [E.out]⟩⟩, HBW.out⟩
 rw [checkI_yes hc] at HCK
 have HCM := Lib.hid hc
 have HS := Lib.hid hc.1.srtB
 have hl4 : n ≤ 4096 := by rw [← HN.out]; exact hc.1.1.2.2
 have hnx : 1 ≤ m.next ∧ m.next ≤ 1048577 := ⟨hc.1.1.1, hc.1.1.2.1⟩
 have HK4 := Lib.hid hc.kids4
 have HRK : Hid (∀ x ∈ m.nodes, ∀ k ∈ x.kids, InR k) := Lib.hid (fun x hx => (HZ.out x hx).2.2)
 have HRPP : Hid (∀ x ∈ m.nodes, InR x.parent) := Lib.hid (fun x hx => (HZ.out x hx).2.1)
 have HPL := Lib.hid (fun (w' : World) (hb : Below w.heap.size w w') (k : Int) (hk : InR k) => place_any A c m.next k m.nodes w' F (HFW.out _ hb) (HRW.out _ hb) HS.out hk (by rw [HN.out]; omega))
 rw [HN.out] at HPL
 obtain ⟨wb, hwb⟩ : ∃ b : Bool, decide (p ≠ 0 ∧ wordA role = false) = b := ⟨_, rfl⟩
 have HWB := Lib.hid hwb
 obtain ⟨nb, hnb⟩ : ∃ b : Bool, decide (atI m.nodes id < 0 ∨ (p ≠ 0 ∧ atI m.nodes p < 0)) = b := ⟨_, rfl⟩
 have HNB := Lib.hid hnb
 clear hc HLB hwb hnb
 go_enter Try.func49, Try.ntmps49
 go_wp2_with fail
 (try rw [HU0.out])
 clear HU0
 refine (HCK.out _ MM.out.below).mono ?_
 rintro _ u1 ⟨rfl, hb⟩
 have MM2 : Hid (Mem w u1 ([.blk w.heap.size 24 #[.int .i64 m.next, .slice A n c], .blk (w.heap.size + 1) 24 #[.int .i64 0, .slice none 0 0]])) := Lib.hid (MM.out.call hb)
 clear MM
 have MM := MM2
 clear MM2
 clear hb HCK
 go_upto_region 3 with fail
 go_cut [38] (fun s38 wx => s38 = .bool wb ∧ Mem w wx ([.blk w.heap.size 24 #[.int .i64 m.next, .slice A n c], .blk (w.heap.size + 1) 24 #[.int .i64 0, .slice none 0 0]]))
 case first =>
  by_cases hp0 : p = 0
  ·have g1 : (p != 0) = false := by rw [hp0]; rfl
   have G2 : Hid (wb = false) := Lib.hid (by rw [← HWB.out]; simp [hp0])
   clear hp0
   go_wp2_with fail
   go_meet
   case rel => exact ⟨by rw [G2.out], MM.out⟩
  ·have g1 : (p != 0) = true := by simp; exact hp0
   rcases hwc : wordA role with _ | _
   ·have G2 : Hid (wb = true) := Lib.hid (by rw [← HWB.out]; simp [hp0, hwc])
    have HW := Lib.hid hwc
    clear hwc
    go_wp2_with fail
    refine (aword_is hns HW.out _).mono ?_
    rintro _ u2 ⟨rfl, hb⟩
    have MM2 : Hid (Mem w u2 ([.blk w.heap.size 24 #[.int .i64 m.next, .slice A n c], .blk (w.heap.size + 1) 24 #[.int .i64 0, .slice none 0 0]])) := Lib.hid (MM.out.call hb)
    clear MM
    have MM := MM2
    clear MM2
    clear hb
    go_wp2_with fail
    go_meet
    case rel => exact ⟨by rw [G2.out], MM.out⟩
   ·have G2 : Hid (wb = false) := Lib.hid (by rw [← HWB.out]; simp [hp0, hwc])
    have HW := Lib.hid hwc
    clear hwc
    go_wp2_with fail
    refine (aword_is hns HW.out _).mono ?_
    rintro _ u2 ⟨rfl, hb⟩
    have MM2 : Hid (Mem w u2 ([.blk w.heap.size 24 #[.int .i64 m.next, .slice A n c], .blk (w.heap.size + 1) 24 #[.int .i64 0, .slice none 0 0]])) := Lib.hid (MM.out.call hb)
    clear MM
    have MM := MM2
    clear MM2
    clear hb
    go_wp2_with fail
    go_meet
    case rel => exact ⟨by rw [G2.out], MM.out⟩
 case rest =>
  obtain ⟨rfl, hm⟩ := hcut
  clear MM
  obtain ⟨c1, rfl⟩ : ∃ v : World, v = wc := ⟨_, rfl⟩
  have MM := Lib.hid hm
  clear hm
  cases wb
  rotate_left 1
  ·have E := Lib.hid (show EE = 2 from HEE.out.symm.trans (copyE_word HCM.out (of_decide_eq_true HWB.out).1 (of_decide_eq_true HWB.out).2))
   have HRR := Lib.hid (MM.out.blk 1 rfl)
   have t0 := HRR.out.frozen 0; have t1 := HRR.out.frozen 1
   have r0 := HRR.out.cell 0; have r1 := HRR.out.cell 1
   have hrlt := HRR.out.lt
   simp at r0 r1
   go_wp2_with fail
   have hyS := (HRR.out.set_ 0 (.int .i64 0)).set_ 1 (.slice none 0 0)
   have f0 := hyS.cell 0; have f1 := hyS.cell 1
   simp at f0 f1
   have HBW := Lib.hid ((MM.out.below.setCell (p := ⟨w.heap.size + 1, 0, none⟩) (by show w.heap.size ≤ w.heap.size + 1; omega) (.int .i64 0)).setCell (p := ⟨w.heap.size + 1, 1, none⟩) (by show w.heap.size ≤ w.heap.size + 1; omega) (.slice none 0 0))
   exact bodyPost_ret (v := .tuple #[.agg #[.int .i64 0, .slice none 0 0], .int .i64 0, .int .i64 (2)]) (by simp [results, Try.results49, go_sem, f0, f1]) rfl ⟨⟨_, rfl, Or.inl ⟨by rw [E.out]; decide, by rw [E.out]⟩⟩, HBW.out⟩
  have HWD : Hid (p ≠ 0 → wordA role = true) := Lib.hid (fun h => by
   have h1 := of_decide_eq_false HWB.out
   cases hw : wordA role with
   | true => rfl
   | false => exact absurd ⟨h, hw⟩ h1)
  clear HWB
  go_upto_region 5 with fail
  go_cut [53] (fun s53 wx => s53 = .bool nb ∧ Mem w wx ([.blk w.heap.size 24 #[.int .i64 m.next, .slice A n c], .blk (w.heap.size + 1) 24 #[.int .i64 0, .slice none 0 0]]))
  case first =>
   rcases atI_cases m.nodes id with ⟨j, hj, hj1, hj2⟩ | ⟨hj1, hj2⟩
   rotate_left 1
   ·have HAT := Lib.hid hj2
    have G2 : Hid (nb = true) := Lib.hid (by rw [← HNB.out]; exact decide_eq_true (.inl (by rw [hj2]; omega)))
    have g4 : decide ((-1 : Int) < 0) = true := by decide
    clear hj1 hj2
    have mc0 := (MM.out.blk 0 rfl).cell 0
    have mc1 := (MM.out.blk 0 rfl).cell 1
    have mlt := (MM.out.blk 0 rfl).lt
    simp at mc0 mc1
    have HP1 := Lib.hid (HPL.out _ MM.out.below id hid)
    rw [HAT.out] at HP1
    go_wp2_with fail
    refine (HP1.out).mono ?_
    rintro _ u2 ⟨rfl, hb⟩
    clear mc0 mc1 mlt
    have MM2 : Hid (Mem w u2 ([.blk w.heap.size 24 #[.int .i64 m.next, .slice A n c], .blk (w.heap.size + 1) 24 #[.int .i64 0, .slice none 0 0]])) := Lib.hid (MM.out.call hb)
    clear MM
    have MM := MM2
    clear MM2
    clear hb HP1
    go_wp2_with fail
    go_meet
    case rel => exact ⟨by rw [G2.out], MM.out⟩
   have HAT := Lib.hid hj2
   have HNL : Hid (¬ atI m.nodes id < 0) := Lib.hid (by rw [hj2]; omega)
   have g4 : decide ((j : Int) < 0) = false := decide_eq_false (by omega)
   clear hj1 hj2 hj
   by_cases hp0 : p = 0
   ·have g1 : (p != 0) = false := by rw [hp0]; rfl
    have G2 : Hid (nb = false) := Lib.hid (by rw [← HNB.out]; exact decide_eq_false (by rintro (h | h); exact HNL.out h; exact h.1 hp0))
    clear hp0
    have mc0 := (MM.out.blk 0 rfl).cell 0
    have mc1 := (MM.out.blk 0 rfl).cell 1
    have mlt := (MM.out.blk 0 rfl).lt
    simp at mc0 mc1
    have HP1 := Lib.hid (HPL.out _ MM.out.below id hid)
    rw [HAT.out] at HP1
    go_wp2_with fail
    refine (HP1.out).mono ?_
    rintro _ u2 ⟨rfl, hb⟩
    clear mc0 mc1 mlt
    have MM2 : Hid (Mem w u2 ([.blk w.heap.size 24 #[.int .i64 m.next, .slice A n c], .blk (w.heap.size + 1) 24 #[.int .i64 0, .slice none 0 0]])) := Lib.hid (MM.out.call hb)
    clear MM
    have MM := MM2
    clear MM2
    clear hb HP1
    go_wp2_with fail
    go_meet
    case rel => exact ⟨by rw [G2.out], MM.out⟩
   ·have g1 : (p != 0) = true := by simp; exact hp0
    rcases atI_cases m.nodes p with ⟨jp, hjp, hjp1, hjp2⟩ | ⟨hjp1, hjp2⟩
    ·have HATP := Lib.hid hjp2
     have G2 : Hid (nb = false) := Lib.hid (by rw [← HNB.out]; exact decide_eq_false (by rintro (h | h); exact HNL.out h; have := h.2; rw [hjp2] at this; omega))
     have g5 : decide ((jp : Int) < 0) = false := decide_eq_false (by omega)
     clear hjp1 hjp2 hjp hp0
     have mc0 := (MM.out.blk 0 rfl).cell 0
     have mc1 := (MM.out.blk 0 rfl).cell 1
     have mlt := (MM.out.blk 0 rfl).lt
     simp at mc0 mc1
     have HP1 := Lib.hid (HPL.out _ MM.out.below id hid)
     rw [HAT.out] at HP1
     go_wp2_with fail
     refine (HP1.out).mono ?_
     rintro _ u2 ⟨rfl, hb⟩
     clear mc0 mc1 mlt
     have MM2 : Hid (Mem w u2 ([.blk w.heap.size 24 #[.int .i64 m.next, .slice A n c], .blk (w.heap.size + 1) 24 #[.int .i64 0, .slice none 0 0]])) := Lib.hid (MM.out.call hb)
     clear MM
     have MM := MM2
     clear MM2
     clear hb HP1
     have mc0 := (MM.out.blk 0 rfl).cell 0
     have mc1 := (MM.out.blk 0 rfl).cell 1
     have mlt := (MM.out.blk 0 rfl).lt
     simp at mc0 mc1
     have HP1 := Lib.hid (HPL.out _ MM.out.below p hpi)
     rw [HATP.out] at HP1
     go_wp2_with fail
     refine (HP1.out).mono ?_
     rintro _ u3 ⟨rfl, hb⟩
     clear mc0 mc1 mlt
     have MM2 : Hid (Mem w u3 ([.blk w.heap.size 24 #[.int .i64 m.next, .slice A n c], .blk (w.heap.size + 1) 24 #[.int .i64 0, .slice none 0 0]])) := Lib.hid (MM.out.call hb)
     clear MM
     have MM := MM2
     clear MM2
     clear hb HP1
     go_wp2_with fail
     go_meet
     case rel => exact ⟨by rw [G2.out], MM.out⟩
    ·have HATP := Lib.hid hjp2
     have G2 : Hid (nb = true) := Lib.hid (by rw [← HNB.out]; exact decide_eq_true (.inr ⟨hp0, by rw [hjp2]; omega⟩))
     have g5 : decide ((-1 : Int) < 0) = true := by decide
     clear hjp1 hjp2 hp0
     have mc0 := (MM.out.blk 0 rfl).cell 0
     have mc1 := (MM.out.blk 0 rfl).cell 1
     have mlt := (MM.out.blk 0 rfl).lt
     simp at mc0 mc1
     have HP1 := Lib.hid (HPL.out _ MM.out.below id hid)
     rw [HAT.out] at HP1
     go_wp2_with fail
     refine (HP1.out).mono ?_
     rintro _ u2 ⟨rfl, hb⟩
     clear mc0 mc1 mlt
     have MM2 : Hid (Mem w u2 ([.blk w.heap.size 24 #[.int .i64 m.next, .slice A n c], .blk (w.heap.size + 1) 24 #[.int .i64 0, .slice none 0 0]])) := Lib.hid (MM.out.call hb)
     clear MM
     have MM := MM2
     clear MM2
     clear hb HP1
     have mc0 := (MM.out.blk 0 rfl).cell 0
     have mc1 := (MM.out.blk 0 rfl).cell 1
     have mlt := (MM.out.blk 0 rfl).lt
     simp at mc0 mc1
     have HP1 := Lib.hid (HPL.out _ MM.out.below p hpi)
     rw [HATP.out] at HP1
     go_wp2_with fail
     refine (HP1.out).mono ?_
     rintro _ u3 ⟨rfl, hb⟩
     clear mc0 mc1 mlt
     have MM2 : Hid (Mem w u3 ([.blk w.heap.size 24 #[.int .i64 m.next, .slice A n c], .blk (w.heap.size + 1) 24 #[.int .i64 0, .slice none 0 0]])) := Lib.hid (MM.out.call hb)
     clear MM
     have MM := MM2
     clear MM2
     clear hb HP1
     go_wp2_with fail
     go_meet
     case rel => exact ⟨by rw [G2.out], MM.out⟩
  case rest =>
   obtain ⟨rfl, hm⟩ := hcut
   clear MM
   obtain ⟨c2, rfl⟩ : ∃ v : World, v = wc := ⟨_, rfl⟩
   have MM := Lib.hid hm
   clear hm
   cases nb
   rotate_left 1
   ·have E := Lib.hid (show EE = 20 from HEE.out.symm.trans (copyE_node HCM.out HWD.out (of_decide_eq_true HNB.out)))
    have HRR := Lib.hid (MM.out.blk 1 rfl)
    have t0 := HRR.out.frozen 0; have t1 := HRR.out.frozen 1
    have r0 := HRR.out.cell 0; have r1 := HRR.out.cell 1
    have hrlt := HRR.out.lt
    simp at r0 r1
    go_wp2_with fail
    have hyS := (HRR.out.set_ 0 (.int .i64 0)).set_ 1 (.slice none 0 0)
    have f0 := hyS.cell 0; have f1 := hyS.cell 1
    simp at f0 f1
    have HBW := Lib.hid ((MM.out.below.setCell (p := ⟨w.heap.size + 1, 0, none⟩) (by show w.heap.size ≤ w.heap.size + 1; omega) (.int .i64 0)).setCell (p := ⟨w.heap.size + 1, 1, none⟩) (by show w.heap.size ≤ w.heap.size + 1; omega) (.slice none 0 0))
    exact bodyPost_ret (v := .tuple #[.agg #[.int .i64 0, .slice none 0 0], .int .i64 0, .int .i64 (20)]) (by simp [results, Try.results49, go_sem, f0, f1]) rfl ⟨⟨_, rfl, Or.inl ⟨by rw [E.out]; decide, by rw [E.out]⟩⟩, HBW.out⟩
   have HNN : Hid (¬ (atI m.nodes id < 0 ∨ (p ≠ 0 ∧ atI m.nodes p < 0))) := Lib.hid (of_decide_eq_false HNB.out)
   clear HNB
   obtain ⟨x, HX⟩ : ∃ x, Hid (x ∈ m.nodes ∧ x.id = id) := by
    rcases atI_cases m.nodes id with ⟨j, hj, hj1, hj2⟩ | ⟨hj1, hj2⟩
    ·exact ⟨m.nodes[j], Lib.hid ⟨List.getElem_mem hj, hj1⟩⟩
    ·exact absurd (.inl (by rw [hj2]; omega)) HNN.out
   have HPY : Hid (p = 0 ∨ ∃ y ∈ m.nodes, y.id = p) := Lib.hid (by
    by_cases hp0 : p = 0
    ·exact .inl hp0
    ·rcases atI_cases m.nodes p with ⟨j, hj, hj1, hj2⟩ | ⟨hj1, hj2⟩
     ·exact .inr ⟨m.nodes[j], List.getElem_mem hj, hj1⟩
     ·exact absurd (.inr ⟨hp0, by rw [hj2]; omega⟩) HNN.out)
   obtain ⟨EG, hEG⟩ : ∃ z, goalE m p role a (dN m p) (heightN m id : Nat) = z := ⟨_, rfl⟩
   have HGE := Lib.hid hEG
   clear hEG
   have HHT := Lib.hid (fun (w' : World) (hb : Below w.heap.size w w') => height_any A c m w' F (HFW.out _ hb) (HRW.out _ hb) HCM.out HRPP.out HRK.out x HX.out.1)
   rw [HN.out, HX.out.2] at HHT
   have hg64 : 1 ≤ heightN m id ∧ heightN m id ≤ 64 := by have := height_le HCM.out HX.out.1; rw [HX.out.2] at this; exact this
   obtain ⟨hg, hhg⟩ : ∃ z, heightN m id = z := ⟨_, rfl⟩
   rw [hhg] at HHT hg64
   have HHG := Lib.hid hhg
   have HGO : Hid (∀ w', Below w.heap.size w w' → Calls Try.prog 81 #[.agg #[.int .i64 m.next, .slice A n c], .int .i64 p, .string role, .int .i64 a, .int .i64 (hg : Nat)] w' fun e w'' => e = .returned (.int .i64 EG) ∧ Below w'.heap.size w' w'') := Lib.hid (fun w' hb => by
    have hge := HGE.out
    rw [hhg] at hge
    rcases HPY.out with h0 | ⟨y, hy, hyp⟩
    ·subst h0
     rw [goalE_root] at hge
     have := goalRoot_any m.next A n c w' role a hg
     rw [hge] at this
     exact this
    ·by_cases h0 : p = 0
     ·subst h0
      rw [goalE_root] at hge
      have := goalRoot_any m.next A n c w' role a hg
      rw [hge] at this
      exact this
     ·subst hyp
      obtain ⟨j, hj, hjy⟩ := List.getElem_of_mem hy
      obtain ⟨d, hd6, hd⟩ := HCM.out.tree.dep y hy
      rw [dN_yes HCM.out hd, goalE_kid HCM.out.tree.fam hy h0] at hge
      have := goalI_any A c m w' F (HFW.out _ hb) (HRW.out _ hb) HCM.out.tree.ids HCM.out.tree.fam HS.out HRPP.out HRK.out (by rw [HN.out]; omega) j hj y hjy (HK4.out y hy) role a ha d hd hd6 hg (by omega)
      rw [hge, HN.out] at this
      exact this)
   clear hhg
   have HSM : Hid (∀ w', Blk w' w.heap.size 24 #[.int .i64 m.next, .slice A n c] → w'.cell? ⟨w.heap.size, 0, none⟩ = some (.int .i64 m.next) ∧ w'.cell? ⟨w.heap.size, 1, none⟩ = some (.slice A n c)) := Lib.hid (fun w' h => by
    have a := h.cell 0; have b := h.cell 1
    simp at a b
    exact ⟨a, b⟩)
   go_upto_region 7 with fail
   obtain ⟨u, hu⟩ : ∃ z9 : World, c2.drew = z9 := ⟨_, rfl⟩
   have MM2 : Hid (Mem w u ([.blk w.heap.size 24 #[.int .i64 m.next, .slice A n c], .blk (w.heap.size + 1) 24 #[.int .i64 0, .slice none 0 0]])) := Lib.hid (by rw [← hu]; exact MM.out.drew)
   clear MM
   have MM := MM2
   clear MM2
   refine wp_region_Y (S := (fun w' : World => w'.cell? ⟨w.heap.size, 0, none⟩ = some (.int .i64 m.next) ∧ w'.cell? ⟨w.heap.size, 1, none⟩ = some (.slice A n c))) 8 (by kernel_rfl) (by rw [hu]; exact HSM.out _ (MM.out.blk 0 rfl)) (fun hHeld => ?_)
   rw [hu] at hHeld ⊢
   clear hu
   refine wpAnyY_take (i := 0) (v := ?_) rfl (by kernel_rfl) (by kernel_rfl) (by kernel_rfl) (by kernel_rfl) (fun _ _ _ h => h) (Or.inl ⟨by rfl, ?_⟩) (by assumption) ?_
   rotate_left 1
   ·(intro w' hSw; obtain ⟨s0, s1⟩ := hSw; go_simp); try with_reducible rfl
   try simp only [Act.put, List.setIfInBounds_toArray, List.set_cons_zero, List.set_cons_succ, Nat.zero_add]
   refine wpAnyY_take (i := 1) (v := ?_) rfl (by kernel_rfl) (by kernel_rfl) (by kernel_rfl) (by kernel_rfl) (fun _ _ _ h => h) (Or.inl ⟨by rfl, ?_⟩) (by assumption) ?_
   rotate_left 1
   ·(intro w' hSw; obtain ⟨s0, s1⟩ := hSw; go_simp); try with_reducible rfl
   try simp only [Act.put, List.setIfInBounds_toArray, List.set_cons_zero, List.set_cons_succ, Nat.zero_add]
   refine wpAnyY_take (i := 2) (v := ?_) rfl (by kernel_rfl) (by kernel_rfl) (by kernel_rfl) (by kernel_rfl) (fun _ _ _ h => h) (Or.inl ⟨by rfl, ?_⟩) (by assumption) ?_
   rotate_left 1
   ·(intro w' hSw; obtain ⟨s0, s1⟩ := hSw; go_simp); try with_reducible rfl
   try simp only [Act.put, List.setIfInBounds_toArray, List.set_cons_zero, List.set_cons_succ, Nat.zero_add]
   refine wpAnyY_take (i := 3) (v := ?_) rfl (by kernel_rfl) (by kernel_rfl) (by kernel_rfl) (by kernel_rfl) (fun _ _ _ h => h) (Or.inl ⟨by rfl, ?_⟩) (by assumption) ?_
   rotate_left 1
   ·(intro w' hSw; obtain ⟨s0, s1⟩ := hSw; go_simp); try with_reducible rfl
   try simp only [Act.put, List.setIfInBounds_toArray, List.set_cons_zero, List.set_cons_succ, Nat.zero_add]
   refine wpAnyY_take (i := 4) (v := ?_) rfl (by kernel_rfl) (by kernel_rfl) (by kernel_rfl) (by kernel_rfl) (fun _ _ _ h => h) (Or.inl ⟨by rfl, ?_⟩) (by assumption) ?_
   rotate_left 1
   ·(intro w' hSw; obtain ⟨s0, s1⟩ := hSw; go_simp); try with_reducible rfl
   try simp only [Act.put, List.setIfInBounds_toArray, List.set_cons_zero, List.set_cons_succ, Nat.zero_add]
   refine wpAnyY_take (i := 5) (v := ?_) rfl (by kernel_rfl) (by kernel_rfl) (by kernel_rfl) (by kernel_rfl) (fun _ _ _ h => h) (Or.inl ⟨by rfl, ?_⟩) (by assumption) ?_
   rotate_left 1
   ·(intro w' hSw; obtain ⟨s0, s1⟩ := hSw; go_simp); try with_reducible rfl
   try simp only [Act.put, List.setIfInBounds_toArray, List.set_cons_zero, List.set_cons_succ, Nat.zero_add]
   refine wpAnyY_one (i := 6) rfl (by kernel_rfl) (fun K hK => ?_)
   go_simp
   refine (HHT.out _ MM.out.below).mono ?_
   rintro _ v1 ⟨rfl, hb⟩
   have MM2 : Hid (Mem w v1 ([.blk w.heap.size 24 #[.int .i64 m.next, .slice A n c], .blk (w.heap.size + 1) 24 #[.int .i64 0, .slice none 0 0]])) := Lib.hid (MM.out.call hb)
   clear MM hb
   have MM := MM2
   clear MM2
   go_simp
   have hHeldv1 := HSM.out _ (MM.out.blk 0 rfl)
   refine hK.out _ _ (fun _ => HSM.out _ (MM.out.blk 0 rfl)) ?_
   clear hK K
   try simp only [Act.put, List.setIfInBounds_toArray, List.set_cons_zero, List.set_cons_succ, Nat.zero_add]
   refine wpAnyY_one (i := 7) rfl (by kernel_rfl) (fun K hK => ?_)
   go_simp
   refine (HGO.out _ MM.out.below).mono ?_
   rintro _ v2 ⟨rfl, hb⟩
   have MM2 : Hid (Mem w v2 ([.blk w.heap.size 24 #[.int .i64 m.next, .slice A n c], .blk (w.heap.size + 1) 24 #[.int .i64 0, .slice none 0 0]])) := Lib.hid (MM.out.call hb)
   clear MM hb
   have MM := MM2
   clear MM2
   go_simp
   have hHeldv2 := HSM.out _ (MM.out.blk 0 rfl)
   refine hK.out _ _ (fun _ => HSM.out _ (MM.out.blk 0 rfl)) ?_
   clear hK K
   try simp only [Act.put, List.setIfInBounds_toArray, List.set_cons_zero, List.set_cons_succ, Nat.zero_add]
   refine wpAnyY_one0 (i := 8) rfl (by kernel_rfl) (by kernel_rfl) (fun K hK => ?_)
   go_simp
   refine hK.out _ _ ?_
   clear hK K
   try simp only [Act.put, List.setIfInBounds_toArray, List.set_cons_zero, List.set_cons_succ, Nat.zero_add]
   refine wpAnyY_done (by kernel_rfl) ?_ _
   clear hHeld hHeldv1 hHeldv2 HHT HGO
   by_cases hEG0 : EG = 0
   rotate_left 1
   ·have E : Hid (EE = EG) := Lib.hid (by rw [← HEE.out, copyE_goal HCM.out HWD.out HNN.out (by rw [HGE.out]; exact hEG0), HGE.out])
    have hEne : EG ≠ 0 := hEG0
    have hEG1 : (EG != 0) = true := by simp; exact hEG0
    clear hEG0 HGE
    have HRR := Lib.hid (MM.out.blk 1 rfl)
    have t0 := HRR.out.frozen 0; have t1 := HRR.out.frozen 1
    have r0 := HRR.out.cell 0; have r1 := HRR.out.cell 1
    have hrlt := HRR.out.lt
    simp at r0 r1
    go_wp2_with fail
    have hyS := (HRR.out.set_ 0 (.int .i64 0)).set_ 1 (.slice none 0 0)
    have f0 := hyS.cell 0; have f1 := hyS.cell 1
    simp at f0 f1
    have HBW := Lib.hid ((MM.out.below.setCell (p := ⟨w.heap.size + 1, 0, none⟩) (by show w.heap.size ≤ w.heap.size + 1; omega) (.int .i64 0)).setCell (p := ⟨w.heap.size + 1, 1, none⟩) (by show w.heap.size ≤ w.heap.size + 1; omega) (.slice none 0 0))
    exact bodyPost_ret (v := .tuple #[.agg #[.int .i64 0, .slice none 0 0], .int .i64 0, .int .i64 (EG)]) (by simp [results, Try.results49, go_sem, f0, f1]) rfl ⟨⟨_, rfl, Or.inl ⟨by rw [E.out]; exact hEne, by rw [E.out]⟩⟩, HBW.out⟩
   subst hEG0
   have q0 : ((0 : Int) != 0) = false := by decide
   obtain ⟨LB, hLB⟩ : ∃ L, belowL m id = L := ⟨_, rfl⟩
   have HKS : Hid (ksL m id = id :: LB) := Lib.hid (by rw [← hLB]; rfl)
   have hlb : LB.length ≤ 4096 := by have := HCM.out.tree.below_len HX.out.1; rw [HX.out.2, hLB, HN.out] at this; omega
   have HUD := Lib.hid (fun (w' : World) (hb : Below w.heap.size w w') => under_any A c m w' F (HFW.out _ hb) (HRW.out _ hb) HCM.out.tree HS.out HRK.out (by rw [HN.out]; omega) x HX.out.1)
   rw [HN.out, HX.out.2, hLB] at HUD
   clear hLB
   go_upto_region 10 with fail
   have mc0 := (MM.out.blk 0 rfl).cell 0
   have mc1 := (MM.out.blk 0 rfl).cell 1
   have mlt := (MM.out.blk 0 rfl).lt
   simp at mc0 mc1
   obtain ⟨gi, hgi⟩ : ∃ z, v2.heap.size = z := ⟨_, rfl⟩
   obtain ⟨v3, hu⟩ : ∃ z9 : World, v2.alloc (.cells #[.int .i64 id] 3) = z9 := ⟨_, rfl⟩
   have MM2 : Hid (Mem w v3 ([.row 3 1 (.slice (some ⟨gi, 0, none⟩) 1 1) 1 [.int .i64 id], .blk w.heap.size 24 #[.int .i64 m.next, .slice A n c], .blk (w.heap.size + 1) 24 #[.int .i64 0, .slice none 0 0]])) := Lib.hid (by rw [← hu]; exact MM.out.allocI hgi id)
   clear MM
   have MM := MM2
   clear MM2
   have HU := Lib.hid hu; have HGI := Lib.hid hgi
   clear hu hgi
   go_wp2_with fail
   rw [HU.out]
   try rw [HGI.out]
   clear HU
   refine (HUD.out _ MM.out.below).mono ?_
   rintro _ v4 ⟨vl, rfl, hown, hb⟩
   obtain ⟨Al, cl, rfl⟩ := hown.shape
   have HLR : Hid (RowOf 1 EInt v4 (fun b => b < v4.heap.size) Al LB) := Lib.hid (by
    obtain ⟨A', c', e, _, _, h3⟩ := hown.isRow (F := fun b => b < v4.heap.size) (fun b _ h => h)
    injection e with e1; subst e1; exact h3)
   clear hown HUD HGI
   clear mc0 mc1 mlt
   have MM2 : Hid (Mem w v4 ([.row 3 1 (.slice (some ⟨gi, 0, none⟩) 1 1) 1 [.int .i64 id], .blk w.heap.size 24 #[.int .i64 m.next, .slice A n c], .blk (w.heap.size + 1) 24 #[.int .i64 0, .slice none 0 0]])) := Lib.hid (MM.out.call hb)
   clear MM
   have MM := MM2
   clear MM2
   clear hb
   have HOA : Hid (OwnI v4 w.heap.size (.slice (some ⟨gi, 0, none⟩) 1 1) [id]) := Lib.hid (MM.out.row 0 rfl)
   have hs4 := MM.out.size
   go_wp2_with (at_builtin; refine wpList_joinI rfl (.tmp 68) (.tmp 71) rfl ?a1 HOA.out Al cl LB _ ?a2 HLR.out ?a4 ?a5 ?a6)
   case a1 => rfl
   case a2 => rfl
   case a4 => simp; omega
   case a5 => exact hs4
   case a6 =>
    intro A3 c3 v5 own3 hg3 hat3
    obtain ⟨KS, hks⟩ : ∃ z, id :: LB = z := ⟨_, rfl⟩
    obtain ⟨kl, hkl⟩ : ∃ z, KS.length = z := ⟨_, rfl⟩
    have HKL := Lib.hid hkl
    have hkl2 : [id].length + LB.length = kl := by rw [← hkl, ← hks]; simp; omega
    have hklb : kl ≤ 4097 ∧ 1 ≤ kl := by rw [← hkl2]; simp; omega
    have hmg := MM.out.grow (n' := ([id] ++ LB).length) (v' := .slice A3 ([id].length + LB.length) c3) (xs' := (([id] ++ LB).map (Value.int .i64))) 0 rfl hg3 hat3 own3
    rw [hkl2, show [id] ++ LB = KS from hks, hkl] at hmg
    simp only [List.length_cons, List.length_nil, Nat.zero_add] at hkl2 own3 ⊢
    rw [hkl2] at own3 ⊢
    rw [hks] at HKS
    obtain ⟨gk, capk, ek, _, _, _, _⟩ := own_some (show v5.ownsRow _ _ _ _ kl _ from hmg.row 0 rfl) (by omega)
    injection ek with ek1 ek2 ek3
    subst ek1
    clear ek2 ek3
    have MM2 : Hid (Mem w v5 ([.row 3 1 (.slice (some ⟨gk, 0, none⟩) kl c3) kl (KS.map (Value.int .i64)), .blk w.heap.size 24 #[.int .i64 m.next, .slice A n c], .blk (w.heap.size + 1) 24 #[.int .i64 0, .slice none 0 0]])) := Lib.hid (hmg)
    clear MM
    have MM := MM2
    clear MM2
    have MM2 : Hid (Mem w v5 ([.blk w.heap.size 24 #[.int .i64 m.next, .slice A n c], .blk (w.heap.size + 1) 24 #[.int .i64 0, .slice none 0 0], .row 3 1 (.slice (some ⟨gk, 0, none⟩) kl c3) kl (KS.map (Value.int .i64))])) := Lib.hid (Mem.pick0 MM.out [1, 2, 0] [.blk w.heap.size 24 #[.int .i64 m.next, .slice A n c], .blk (w.heap.size + 1) 24 #[.int .i64 0, .slice none 0 0], .row 3 1 (.slice (some ⟨gk, 0, none⟩) kl c3) kl (KS.map (Value.int .i64))] (by decide) rfl)
    clear MM
    have MM := MM2
    clear MM2
    have HK0 := Lib.hid hks
    clear hmg own3 hg3 hat3 HOA HLR hs4 hks hkl hkl2
    have HND : Hid KS.Nodup := Lib.hid (by rw [← HKS.out, ← HX.out.2]; exact ks_nodup HCM.out.tree HX.out.1)
    have w1 : IntKind.i64.wrap ((n : Int) + (kl : Int)) = n + kl := by rw [IntKind.wrap_i64]; omega
    have w2 : IntKind.i64.wrap (m.next + (kl : Int)) = m.next + kl := by rw [IntKind.wrap_i64]; omega
    by_cases hf1 : 4096 < n + kl
    ·have E : Hid (EE = 4) := Lib.hid (by rw [← HEE.out, copyE_full HCM.out HWD.out HNN.out HGE.out (.inl (by rw [HKS.out, HKL.out, HN.out]; exact hf1))])
     have g7 : decide ((4096 : Int) < (n : Int) + (kl : Int)) = true := decide_eq_true (by omega)
     have mc0 := (MM.out.blk 0 rfl).cell 0
     have mc1 := (MM.out.blk 0 rfl).cell 1
     have mlt := (MM.out.blk 0 rfl).lt
     simp at mc0 mc1
     go_upto_region 12 with fail
     clear mc0 mc1 mlt
     have HRR := Lib.hid (MM.out.blk 1 rfl)
     have t0 := HRR.out.frozen 0; have t1 := HRR.out.frozen 1
     have r0 := HRR.out.cell 0; have r1 := HRR.out.cell 1
     have hrlt := HRR.out.lt
     simp at r0 r1
     go_wp2_with fail
     have hyS := (HRR.out.set_ 0 (.int .i64 0)).set_ 1 (.slice none 0 0)
     have f0 := hyS.cell 0; have f1 := hyS.cell 1
     simp at f0 f1
     have HBW := Lib.hid ((MM.out.below.setCell (p := ⟨w.heap.size + 1, 0, none⟩) (by show w.heap.size ≤ w.heap.size + 1; omega) (.int .i64 0)).setCell (p := ⟨w.heap.size + 1, 1, none⟩) (by show w.heap.size ≤ w.heap.size + 1; omega) (.slice none 0 0))
     exact bodyPost_ret (v := .tuple #[.agg #[.int .i64 0, .slice none 0 0], .int .i64 0, .int .i64 (4)]) (by simp [results, Try.results49, go_sem, f0, f1]) rfl ⟨⟨_, rfl, Or.inl ⟨by rw [E.out]; decide, by rw [E.out]⟩⟩, HBW.out⟩
    have g7 : decide ((4096 : Int) < (n : Int) + (kl : Int)) = false := decide_eq_false (by omega)
    by_cases hf2 : 1048577 < m.next + kl
    ·have E : Hid (EE = 4) := Lib.hid (by rw [← HEE.out, copyE_full HCM.out HWD.out HNN.out HGE.out (.inr (by rw [HKS.out, HKL.out]; exact hf2))])
     have g8 : decide ((1048577 : Int) < m.next + (kl : Int)) = true := decide_eq_true hf2
     have mc0 := (MM.out.blk 0 rfl).cell 0
     have mc1 := (MM.out.blk 0 rfl).cell 1
     have mlt := (MM.out.blk 0 rfl).lt
     simp at mc0 mc1
     go_upto_region 12 with fail
     clear mc0 mc1 mlt
     have HRR := Lib.hid (MM.out.blk 1 rfl)
     have t0 := HRR.out.frozen 0; have t1 := HRR.out.frozen 1
     have r0 := HRR.out.cell 0; have r1 := HRR.out.cell 1
     have hrlt := HRR.out.lt
     simp at r0 r1
     go_wp2_with fail
     have hyS := (HRR.out.set_ 0 (.int .i64 0)).set_ 1 (.slice none 0 0)
     have f0 := hyS.cell 0; have f1 := hyS.cell 1
     simp at f0 f1
     have HBW := Lib.hid ((MM.out.below.setCell (p := ⟨w.heap.size + 1, 0, none⟩) (by show w.heap.size ≤ w.heap.size + 1; omega) (.int .i64 0)).setCell (p := ⟨w.heap.size + 1, 1, none⟩) (by show w.heap.size ≤ w.heap.size + 1; omega) (.slice none 0 0))
     exact bodyPost_ret (v := .tuple #[.agg #[.int .i64 0, .slice none 0 0], .int .i64 0, .int .i64 (4)]) (by simp [results, Try.results49, go_sem, f0, f1]) rfl ⟨⟨_, rfl, Or.inl ⟨by rw [E.out]; decide, by rw [E.out]⟩⟩, HBW.out⟩
    have E : Hid (EE = 0) := Lib.hid (by rw [← HEE.out, copyE_ok HCM.out HWD.out HNN.out HGE.out (by rw [HKS.out, HKL.out, HN.out]; omega)])
    have g8 : decide ((1048577 : Int) < m.next + (kl : Int)) = false := decide_eq_false hf2
    have mc0 := (MM.out.blk 0 rfl).cell 0
    have mc1 := (MM.out.blk 0 rfl).cell 1
    have mlt := (MM.out.blk 0 rfl).lt
    simp at mc0 mc1
    go_upto_region 13 with fail
    clear g7 g8 w1
    clear mc0 mc1 mlt
    have hmm := @run_makeMap Try.prog
    go_upto_region 14 with fail
    clear hmm
    obtain ⟨bm, hbm⟩ : ∃ z, v5.heap.size = z := ⟨_, rfl⟩
    obtain ⟨v6, hu⟩ : ∃ z9 : World, v5.alloc (.map #[] 0) = z9 := ⟨_, rfl⟩
    have MM2 : Hid (Mem w v6 ([.mp 3 bm 0 (.map []), .blk w.heap.size 24 #[.int .i64 m.next, .slice A n c], .blk (w.heap.size + 1) 24 #[.int .i64 0, .slice none 0 0], .row 3 1 (.slice (some ⟨gk, 0, none⟩) kl c3) kl (KS.map (Value.int .i64))])) := Lib.hid (by rw [← hu]; exact MM.out.allocM hbm 3)
    clear MM
    have MM := MM2
    clear MM2
    rw [hu, hbm]
    clear hu hbm
    have MM2 : Hid (Mem w v6 ([.blk w.heap.size 24 #[.int .i64 m.next, .slice A n c], .blk (w.heap.size + 1) 24 #[.int .i64 0, .slice none 0 0], .row 3 1 (.slice (some ⟨gk, 0, none⟩) kl c3) kl (KS.map (Value.int .i64)), .mp 3 bm 0 (.map [])])) := Lib.hid (Mem.pick0 MM.out [1, 2, 3, 0] [.blk w.heap.size 24 #[.int .i64 m.next, .slice A n c], .blk (w.heap.size + 1) 24 #[.int .i64 0, .slice none 0 0], .row 3 1 (.slice (some ⟨gk, 0, none⟩) kl c3) kl (KS.map (Value.int .i64)), .mp 3 bm 0 (.map [])] (by decide) rfl)
    clear MM
    have MM := MM2
    clear MM2
    go_wp2_with fail
    go_loopg [16, 17, 92] kl (fun q s16 s17 s92 wx => ∃ (i : Nat) (D : DataW Value), s92 = .int .i64 i ∧ q = kl - i ∧ i ≤ kl ∧ Mem w wx ([.blk w.heap.size 24 #[.int .i64 m.next, .slice A n c], .blk (w.heap.size + 1) 24 #[.int .i64 0, .slice none 0 0], .row 3 1 (.slice (some ⟨gk, 0, none⟩) kl c3) kl (KS.map (Value.int .i64)), .mp 3 bm i D]) ∧ MapV D (valsTo m.next KS i))
    case atStart => exact ⟨0, _, rfl, rfl, Nat.zero_le _, MM.out, MapV.start⟩
    case round =>
     clear MM
     obtain ⟨i, D, rfl, rfl, hik, hm, hmv⟩ := hrel
     have MM := Lib.hid hm
     clear hm
     have HMV := Lib.hid hmv
     clear hmv
     by_cases hlt : i < kl
     ·obtain ⟨k, hk⟩ : ∃ k, KS[i]'(by rw [HKL.out]; exact hlt) = k := ⟨_, rfl⟩
      have HKD : Hid (KS.getD i 0 = k) := Lib.hid (by rw [List.getD_eq_getElem?_getD, List.getElem?_eq_getElem (by rw [HKL.out]; exact hlt), hk]; rfl)
      have HKM : Hid (k ∈ ksL m x.id) := Lib.hid (by rw [HX.out.2, HKS.out, ← hk]; exact List.getElem_mem _)
      obtain ⟨y2, hy2, hy2k⟩ := ks_node HCM.out.tree HX.out.1 HKM.out
      have hin : InI k := by
       obtain ⟨t, ht, hty⟩ := List.getElem_of_mem hy2
       have h1 := HCM.out.1.2 t ht
       rw [hty, hy2k] at h1
       have h2 := h1.1; have h3 := h1.2.1
       exact ⟨by omega, by omega⟩
      have kc : wr.cell? ⟨gk, i, none⟩ = some (.int .i64 k) := by
       rw [own_cell (MM.out.row 2 rfl) i (by omega), List.getElem?_map, List.getElem?_eq_getElem (by rw [HKL.out]; exact hlt), hk]; rfl
      have HNE : Hid (MapV (D.put (kM k) (.held (.int .i64 (m.next + i)))) (valsTo m.next KS (i + 1))) := Lib.hid (by
       have h := HMV.out.put (KS.getD i 0, .int .i64 (m.next + i)) (vals_new HND.out (by rw [HKL.out]; exact hlt))
       rw [HKD.out] at h
       rw [valsTo, HKD.out]
       exact h)
      have k1 : (i : Int) < kl := by omega
      have k0 : (0 : Int) ≤ i := by omega
      have wn : IntKind.i64.wrap (m.next + (i : Int)) = m.next + i := by rw [IntKind.wrap_i64]; omega
      have HOM := Lib.hid (MM.out.map 3 rfl)
      clear hk hy2 hy2k
      have mc0 := (MM.out.blk 0 rfl).cell 0
      have mlt := (MM.out.blk 0 rfl).lt
      simp at mc0
      go_wp2_with (at_mapUpdate; refine wpList_mapUpdate_own _ rfl _ _ _ 112 rfl 3 3 lawM Try.underlying112 heldM bm i D rfl HOM.out (by unfold maxLen; omega) _ _ _ rfl rfl (keyM hin) _ [] rfl ?_)
      intro w3 hown3 hg3
      clear mc0 mlt
      have MM2 : Hid (Mem w w3 ([.blk w.heap.size 24 #[.int .i64 m.next, .slice A n c], .blk (w.heap.size + 1) 24 #[.int .i64 0, .slice none 0 0], .row 3 1 (.slice (some ⟨gk, 0, none⟩) kl c3) kl (KS.map (Value.int .i64)), .mp 3 bm (i + 1) (D.put (kM k) (.held (.int .i64 (m.next + i))))])) := Lib.hid (MM.out.put 3 rfl hg3 hown3)
      clear MM
      have MM := MM2
      clear MM2
      clear hown3 hg3 kc HOM wn hin
      go_wp2_with fail
      go_roundg (kl - (i + 1))
      case measure => omega
      case rel => exact ⟨i + 1, _, by go_num, rfl, by omega, MM.out, HNE.out⟩
     ·have k9 : ¬ (i : Int) < kl := by omega
      have HMV2 : Hid (MapV D (valsTo m.next KS KS.length)) := Lib.hid (by rw [HKL.out, show kl = i by omega]; exact HMV.out)
      clear HMV
      have mc0 := (MM.out.blk 0 rfl).cell 0
      have mc1 := (MM.out.blk 0 rfl).cell 1
      have mlt := (MM.out.blk 0 rfl).lt
      simp at mc0 mc1
      have HTW := Lib.hid (twinA_any A c m wr F (HFW.out _ MM.out.below) (HRW.out _ MM.out.below) HZ'.out (by rw [HN.out]; omega))
      rw [HN.out] at HTW
      go_wp2_with fail
      refine HTW.out.mono ?_
      rintro _ ut ⟨vt, rfl, l, hown, hlm, hb⟩
      clear mc0 mc1 mlt
      have hll : l.length = n := by rw [← HN.out, ← hlm, List.length_map]
      obtain ⟨At, ct, rfl⟩ := own_shape hown.row
      have HLM := Lib.hid hlm
      have MM2 : Hid (Mem w ut ([.blk w.heap.size 24 #[.int .i64 m.next, .slice A n c], .blk (w.heap.size + 1) 24 #[.int .i64 0, .slice none 0 0], .row 3 1 (.slice (some ⟨gk, 0, none⟩) kl c3) kl (KS.map (Value.int .i64)), .mp 3 bm i D] ++ modelC (.slice At l.length ct) l)) := Lib.hid (MM.out.moreM hb hown)
      clear MM
      have MM := MM2
      clear MM2
      clear hown hlm hb HTW k9 hik hlt
      rw [hll] at MM ⊢
      obtain ⟨hp, hhp⟩ : ∃ z, ut.heap.size = z := ⟨_, rfl⟩
      obtain ⟨x0, hu⟩ : ∃ z9 : World, ut.alloc (.cells #[.int .i64 m.next, .slice At n ct] 24) = z9 := ⟨_, rfl⟩
      have MM2 : Hid (Mem w x0 ([.blk hp 24 #[.int .i64 m.next, .slice At n ct], .blk w.heap.size 24 #[.int .i64 m.next, .slice A n c], .blk (w.heap.size + 1) 24 #[.int .i64 0, .slice none 0 0], .row 3 1 (.slice (some ⟨gk, 0, none⟩) kl c3) kl (KS.map (Value.int .i64)), .mp 3 bm i D] ++ modelC (.slice At n ct) l)) := Lib.hid (by rw [← hu]; exact MM.out.allocG hhp _ _)
      clear MM
      have MM := MM2
      clear MM2
      have HU := Lib.hid hu; have HHP := Lib.hid hhp
      clear hu hhp
      go_upto_region 20 with fail
      rw [HU.out, HHP.out]
      clear HU HHP
      have MM2 : Hid (Mem w x0 ([.blk w.heap.size 24 #[.int .i64 m.next, .slice A n c], .blk (w.heap.size + 1) 24 #[.int .i64 0, .slice none 0 0], .row 3 1 (.slice (some ⟨gk, 0, none⟩) kl c3) kl (KS.map (Value.int .i64)), .mp 3 bm i D, .blk hp 24 #[.int .i64 m.next, .slice At n ct]] ++ modelC (.slice At n ct) l)) := Lib.hid (Mem.pick MM.out [1, 2, 3, 4, 0] [.blk w.heap.size 24 #[.int .i64 m.next, .slice A n c], .blk (w.heap.size + 1) 24 #[.int .i64 0, .slice none 0 0], .row 3 1 (.slice (some ⟨gk, 0, none⟩) kl c3) kl (KS.map (Value.int .i64)), .mp 3 bm i D, .blk hp 24 #[.int .i64 m.next, .slice At n ct]] (by decide) rfl)
      clear MM
      have MM := MM2
      clear MM2
      have pc0 := (MM.out.blk 4 rfl).cell 0
      have pc1 := (MM.out.blk 4 rfl).cell 1
      have pf0 := (MM.out.blk 4 rfl).frozen 0
      have plt := (MM.out.blk 4 rfl).lt
      simp at pc0 pc1
      have w3 : IntKind.i64.wrap (m.next + (kl : Int)) = m.next + kl := by rw [IntKind.wrap_i64]; omega
      go_upto_region 21 with fail
      clear pf0 pc0 pc1 plt
      obtain ⟨x1, hu⟩ : ∃ z9 : World, x0.setCell ⟨hp, 0, none⟩ (.int .i64 (m.next + (kl : Int))) = z9 := ⟨_, rfl⟩
      have MM2 : Hid (Mem w x1 ([.blk w.heap.size 24 #[.int .i64 m.next, .slice A n c], .blk (w.heap.size + 1) 24 #[.int .i64 0, .slice none 0 0], .row 3 1 (.slice (some ⟨gk, 0, none⟩) kl c3) kl (KS.map (Value.int .i64)), .mp 3 bm i D, .blk hp 24 #[.int .i64 (m.next + (kl : Int)), .slice At n ct]] ++ modelC (.slice At n ct) l)) := Lib.hid (by rw [← hu]; exact MM.out.set_ 4 rfl 0 _)
      clear MM
      have MM := MM2
      clear MM2
      rw [hu]
      clear hu
      clear w3
      go_wp2_with fail
      go_loopg [20, 21, 22, 23, 24, 25, 26, 27, 114] kl (fun q s20 s21 s22 s23 s24 s25 s26 s27 s114 wx => ∃ (i2 : Nat) (vo : Value) (lo : List LN), s114 = .int .i64 i2 ∧ q = kl - i2 ∧ i2 ≤ kl ∧ Mem w wx ([.blk w.heap.size 24 #[.int .i64 m.next, .slice A n c], .blk (w.heap.size + 1) 24 #[.int .i64 0, .slice none 0 0], .row 3 1 (.slice (some ⟨gk, 0, none⟩) kl c3) kl (KS.map (Value.int .i64)), .mp 3 bm i D, .blk hp 24 #[.int .i64 (m.next + (kl : Int)), vo]] ++ modelC vo lo) ∧ lo.map LN.n = m.nodes ++ copiesTo m KS i2)
      case atStart => exact ⟨0, _, l, rfl, rfl, Nat.zero_le _, MM.out, by rw [HLM.out]; simp [copiesTo]⟩
      case round =>
       clear HLM
       clear MM
       obtain ⟨i2, vo, lo, rfl, rfl, hik2, hm, hlm⟩ := hrel
       have MM := Lib.hid hm
       clear hm
       have HLM := Lib.hid hlm
       have HLO : Hid (lo.length = n + i2) := Lib.hid (by rw [← List.length_map (f := LN.n), hlm, List.length_append, copies_len, HN.out])
       clear hlm
       by_cases hlt2 : i2 < kl
       ·obtain ⟨k, hk⟩ : ∃ k, KS[i2]'(by rw [HKL.out]; exact hlt2) = k := ⟨_, rfl⟩
        have HKD : Hid (KS.getD i2 0 = k) := Lib.hid (by rw [List.getD_eq_getElem?_getD, List.getElem?_eq_getElem (by rw [HKL.out]; exact hlt2), hk]; rfl)
        have HKM : Hid (k ∈ ksL m x.id) := Lib.hid (by rw [HX.out.2, HKS.out, ← hk]; exact List.getElem_mem _)
        have HKI : Hid (k ∈ KS ∧ idxI KS k = i2) := Lib.hid (by
         have hm : k ∈ KS := by rw [← hk]; exact List.getElem_mem _
         refine ⟨hm, ?_⟩
         rcases idxI_cases KS k with ⟨q, hq, e0, e, _⟩ | ⟨h2, _⟩
         ·rw [e, nodup_inj HND.out hq (by rw [HKL.out]; exact hlt2) (e0.trans hk.symm)]
         ·exact absurd hm h2)
        obtain ⟨y2, hy2, hy2k⟩ := ks_node HCM.out.tree HX.out.1 HKM.out
        have HY2 := Lib.hid hy2
        obtain ⟨t, ht, hty⟩ := List.getElem_of_mem hy2
        have htn : t < n := by rw [← HN.out]; exact ht
        have hin : InR k := by
         have h1 := HCM.out.1.2 t ht
         rw [hty, hy2k] at h1
         have h2 := h1.1; have h3 := h1.2.1
         exact ⟨by omega, by omega⟩
        have HAK : Hid (atI m.nodes k = t) := Lib.hid (by rw [← hy2k, ← hty]; exact atI_some HS.out.1 ht rfl)
        have HNO : Hid (nodeOf m (KS.getD i2 0) = y2) := Lib.hid (by rw [HKD.out, ← hy2k]; exact HCM.out.tree.nodeOf hy2)
        have HYK : Hid (y2.id = k) := Lib.hid hy2k
        obtain ⟨b, off, Sp, cp, Sk, ck, Sr, cr, rfl, hbF, d0, d1, d2, d3, d4, d5, d6, hpp, hkk, hrr⟩ := node_at HH.out ht
        rw [hty] at d0 d1 d2 d3 d4 d5 d6 hpp hkk hrr
        have HPP := Lib.hid hpp.2.2; have HKK := Lib.hid hkk.2.2; have HRR := Lib.hid hrr.2.2
        have HSX : Hid (∀ w', Below w.heap.size w w' → Blk w' w.heap.size 24 #[.int .i64 m.next, .slice (some ⟨b, off, none⟩) n c] → w'.cell? ⟨w.heap.size, 0, none⟩ = some (.int .i64 m.next) ∧ w'.cell? ⟨w.heap.size, 1, none⟩ = some (.slice (some ⟨b, off, none⟩) n c) ∧ w'.cell? ⟨b, off + t * 7, none⟩ = some (.int .i64 y2.id) ∧ w'.cell? ⟨b, off + t * 7 + 1, none⟩ = some (.string y2.concept) ∧ w'.cell? ⟨b, off + t * 7 + 2, none⟩ = some (.int .i64 y2.parent) ∧ w'.cell? ⟨b, off + t * 7 + 3, none⟩ = some (.string y2.role) ∧ w'.cell? ⟨b, off + t * 7 + 4, none⟩ = some (.slice Sp y2.props.length cp) ∧ w'.cell? ⟨b, off + t * 7 + 5, none⟩ = some (.slice Sk y2.kids.length ck) ∧ w'.cell? ⟨b, off + t * 7 + 6, none⟩ = some (.slice Sr y2.refs.length cr)) := Lib.hid (fun w' hb h1 => by
         have m0 := h1.cell 0; have m1 := h1.cell 1
         simp at m0 m1
         have cc : ∀ q, w'.cell? ⟨b, q, none⟩ = w.cell? ⟨b, q, none⟩ := fun q => hb.cell (p := ⟨b, q, none⟩) (hF _ hbF)
         exact ⟨m0, m1, (cc _).trans d0, (cc _).trans d1, (cc _).trans d2, (cc _).trans d3, (cc _).trans d4, (cc _).trans d5, (cc _).trans d6⟩)
        have HNL := Lib.hid (fun (w' : World) (hb : Below w.heap.size w w') => own_any y2 Sp Sk Sr cp ck cr w' F (HFW.out _ hb) (HZ'.out y2 HY2.out) (HPP.out.keep EProp.stays (Keep.below hb hF) (fun _ h => h)) (HKK.out.keep EInt.stays (Keep.below hb hF) (fun _ h => h)) (HRR.out.keep ERef.stays (Keep.below hb hF) (fun _ h => h)))
        have kc : wr.cell? ⟨gk, i2, none⟩ = some (.int .i64 k) := by
         rw [own_cell (MM.out.row 2 rfl) i2 (by omega), List.getElem?_map, List.getElem?_eq_getElem (by rw [HKL.out]; exact hlt2), hk]; rfl
        have k1 : (i2 : Int) < kl := by omega
        have k0 : (0 : Int) ≤ i2 := by omega
        have t1 : (t : Int) < n := by omega
        have t0 : (0 : Int) ≤ t := by omega
        clear d0 d1 d2 d3 d4 d5 d6 hpp hkk hrr hty hk hy2 hy2k ht
        go_upto_region 24 with fail
        clear kc
        go_cut [21] (fun s21 wx => ∃ (nb : Nat) (Ap : Option Addr) (np : Nat) (Ak : Option Addr) (nk : Nat) (Ar : Option Addr) (nr : Nat), s21 = .pointer (some ⟨nb, 0, none⟩) ∧ Mem w wx ([.blk nb 38 #[.int .i64 y2.id, .string y2.concept, .int .i64 y2.parent, .string y2.role, .slice Ap y2.props.length np, .slice Ak y2.kids.length nk, .slice Ar y2.refs.length nr], .row 85 2 (.slice Ap y2.props.length np) y2.props.length (y2.props.flatMap propCells), .row 3 1 (.slice Ak y2.kids.length nk) y2.kids.length (y2.kids.map (Value.int .i64)), .row 82 2 (.slice Ar y2.refs.length nr) y2.refs.length (y2.refs.flatMap refCells), .blk w.heap.size 24 #[.int .i64 m.next, .slice (some ⟨b, off, none⟩) n c], .blk (w.heap.size + 1) 24 #[.int .i64 0, .slice none 0 0], .row 3 1 (.slice (some ⟨gk, 0, none⟩) kl c3) kl (KS.map (Value.int .i64)), .mp 3 bm i D, .blk hp 24 #[.int .i64 (m.next + (kl : Int)), vo]] ++ modelC vo lo))
        case first =>
         obtain ⟨u, hu⟩ : ∃ z9 : World, wr.drew = z9 := ⟨_, rfl⟩
         have MM2 : Hid (Mem w u ([.blk w.heap.size 24 #[.int .i64 m.next, .slice (some ⟨b, off, none⟩) n c], .blk (w.heap.size + 1) 24 #[.int .i64 0, .slice none 0 0], .row 3 1 (.slice (some ⟨gk, 0, none⟩) kl c3) kl (KS.map (Value.int .i64)), .mp 3 bm i D, .blk hp 24 #[.int .i64 (m.next + (kl : Int)), vo]] ++ modelC vo lo)) := Lib.hid (by rw [← hu]; exact MM.out.drew)
         clear MM
         have MM := MM2
         clear MM2
         refine wp_region_Y (S := (fun w' : World => w'.cell? ⟨w.heap.size, 0, none⟩ = some (.int .i64 m.next) ∧ w'.cell? ⟨w.heap.size, 1, none⟩ = some (.slice (some ⟨b, off, none⟩) n c) ∧ w'.cell? ⟨b, off + t * 7, none⟩ = some (.int .i64 y2.id) ∧ w'.cell? ⟨b, off + t * 7 + 1, none⟩ = some (.string y2.concept) ∧ w'.cell? ⟨b, off + t * 7 + 2, none⟩ = some (.int .i64 y2.parent) ∧ w'.cell? ⟨b, off + t * 7 + 3, none⟩ = some (.string y2.role) ∧ w'.cell? ⟨b, off + t * 7 + 4, none⟩ = some (.slice Sp y2.props.length cp) ∧ w'.cell? ⟨b, off + t * 7 + 5, none⟩ = some (.slice Sk y2.kids.length ck) ∧ w'.cell? ⟨b, off + t * 7 + 6, none⟩ = some (.slice Sr y2.refs.length cr))) 9 (by kernel_rfl) (by rw [hu]; exact HSX.out _ MM.out.below (MM.out.blk 0 rfl)) (fun hHeld => ?_)
         rw [hu] at hHeld ⊢
         clear hu
         refine wpAnyY_take (i := 0) (v := ?_) rfl (by kernel_rfl) (by kernel_rfl) (by kernel_rfl) (by kernel_rfl) (fun _ _ _ h => h) (Or.inl ⟨by rfl, ?_⟩) (by assumption) ?_
         rotate_left 1
         ·(intro w' hSw; obtain ⟨s0, s1, s2, s3, s4, s5, s6, s7, s8⟩ := hSw; go_simp); try with_reducible rfl
         try simp only [Act.put, List.setIfInBounds_toArray, List.set_cons_zero, List.set_cons_succ, Nat.zero_add]
         refine wpAnyY_take (i := 1) (v := ?_) rfl (by kernel_rfl) (by kernel_rfl) (by kernel_rfl) (by kernel_rfl) (fun _ _ _ h => h) (Or.inl ⟨by rfl, ?_⟩) (by assumption) ?_
         rotate_left 1
         ·(intro w' hSw; obtain ⟨s0, s1, s2, s3, s4, s5, s6, s7, s8⟩ := hSw; go_simp); try with_reducible rfl
         try simp only [Act.put, List.setIfInBounds_toArray, List.set_cons_zero, List.set_cons_succ, Nat.zero_add]
         refine wpAnyY_take (i := 2) (v := ?_) rfl (by kernel_rfl) (by kernel_rfl) (by kernel_rfl) (by kernel_rfl) (fun _ _ _ h => h) (Or.inl ⟨by rfl, ?_⟩) (by assumption) ?_
         rotate_left 1
         ·(intro w' hSw; obtain ⟨s0, s1, s2, s3, s4, s5, s6, s7, s8⟩ := hSw; go_simp); try with_reducible rfl
         try simp only [Act.put, List.setIfInBounds_toArray, List.set_cons_zero, List.set_cons_succ, Nat.zero_add]
         refine wpAnyY_take (i := 3) (v := ?_) rfl (by kernel_rfl) (by kernel_rfl) (by kernel_rfl) (by kernel_rfl) (fun _ _ _ h => h) (Or.inl ⟨by rfl, ?_⟩) (by assumption) ?_
         rotate_left 1
         ·(intro w' hSw; obtain ⟨s0, s1, s2, s3, s4, s5, s6, s7, s8⟩ := hSw; go_simp); try with_reducible rfl
         try simp only [Act.put, List.setIfInBounds_toArray, List.set_cons_zero, List.set_cons_succ, Nat.zero_add]
         refine wpAnyY_two (i := 4) (j := 8) rfl rfl (by kernel_rfl) (fun K hK => ?_) (fun K hK => ?_)
         ·go_simp
          have HP1 := Lib.hid (HPL.out _ MM.out.below k hin)
          rw [HAK.out] at HP1
          refine HP1.out.mono ?_
          rintro _ x1 ⟨rfl, hb⟩
          have MM2 : Hid (Mem w x1 ([.blk w.heap.size 24 #[.int .i64 m.next, .slice (some ⟨b, off, none⟩) n c], .blk (w.heap.size + 1) 24 #[.int .i64 0, .slice none 0 0], .row 3 1 (.slice (some ⟨gk, 0, none⟩) kl c3) kl (KS.map (Value.int .i64)), .mp 3 bm i D, .blk hp 24 #[.int .i64 (m.next + (kl : Int)), vo]] ++ modelC vo lo)) := Lib.hid (MM.out.call hb)
          clear MM
          have MM := MM2
          clear MM2
          clear hb HP1
          go_simp
          have hHeldx1 := HSX.out _ MM.out.below (MM.out.blk 0 rfl)
          refine hK.out _ _ (fun _ => HSX.out _ MM.out.below (MM.out.blk 0 rfl)) ?_
          clear hK K
          try simp only [Act.put, List.setIfInBounds_toArray, List.set_cons_zero, List.set_cons_succ, Nat.zero_add]
          refine wpAnyY_take (i := 5) (v := ?_) rfl (by kernel_rfl) (by kernel_rfl) (by kernel_rfl) (by kernel_rfl) (fun _ _ _ h => h) (Or.inl ⟨by rfl, ?_⟩) (by assumption) ?_
          rotate_left 1
          ·(intro w' hSw; obtain ⟨s0, s1, s2, s3, s4, s5, s6, s7, s8⟩ := hSw; go_simp); try with_reducible rfl
          try simp only [Act.put, List.setIfInBounds_toArray, List.set_cons_zero, List.set_cons_succ, Nat.zero_add]
          refine wpAnyY_take (i := 6) (v := ?_) rfl (by kernel_rfl) (by kernel_rfl) (by kernel_rfl) (by kernel_rfl) (fun _ _ _ h => h) (Or.inl ⟨by rfl, ?_⟩) (by assumption) ?_
          rotate_left 1
          ·(intro w' hSw; obtain ⟨s0, s1, s2, s3, s4, s5, s6, s7, s8⟩ := hSw; go_simp); try with_reducible rfl
          try simp only [Act.put, List.setIfInBounds_toArray, List.set_cons_zero, List.set_cons_succ, Nat.zero_add]
          refine wpAnyY_two (i := 7) (j := 8) rfl rfl (by kernel_rfl) (fun K hK => ?_) (fun K hK => ?_)
          ·go_simp
           refine (HNL.out _ MM.out.below).mono ?_
           rintro _ x2 ⟨vP, vK, vR, rfl, _, _, _, hb, _, _, _, hol, hcn⟩
           obtain ⟨Ap, np, rfl⟩ : ∃ A c, vP = .slice A y2.props.length c := own_shape hol.p
           obtain ⟨Ak, nk, rfl⟩ : ∃ A c, vK = .slice A y2.kids.length c := hol.k.shape
           obtain ⟨Ar, nr, rfl⟩ : ∃ A c, vR = .slice A y2.refs.length c := own_shape hol.r
           have MM2 : Hid (Mem w x2 ([.row 85 2 (.slice Ap y2.props.length np) y2.props.length (y2.props.flatMap propCells), .row 3 1 (.slice Ak y2.kids.length nk) y2.kids.length (y2.kids.map (Value.int .i64)), .row 82 2 (.slice Ar y2.refs.length nr) y2.refs.length (y2.refs.flatMap refCells), .blk w.heap.size 24 #[.int .i64 m.next, .slice (some ⟨b, off, none⟩) n c], .blk (w.heap.size + 1) 24 #[.int .i64 0, .slice none 0 0], .row 3 1 (.slice (some ⟨gk, 0, none⟩) kl c3) kl (KS.map (Value.int .i64)), .mp 3 bm i D, .blk hp 24 #[.int .i64 (m.next + (kl : Int)), vo]] ++ modelC vo lo)) := Lib.hid (MM.out.moreL hb hol hcn)
           clear MM
           have MM := MM2
           clear MM2
           clear hb hol hcn
           go_simp
           have hHeldx2 := HSX.out _ MM.out.below (MM.out.blk 3 rfl)
           refine hK.out _ _ (fun _ => HSX.out _ MM.out.below (MM.out.blk 3 rfl)) ?_
           clear hK K
           try simp only [Act.put, List.setIfInBounds_toArray, List.set_cons_zero, List.set_cons_succ, Nat.zero_add]
           refine wpAnyY_one (i := 8) rfl (by kernel_rfl) (fun K hK => ?_)
           go_simp
           obtain ⟨nb, hnb⟩ : ∃ z, x2.heap.size = z := ⟨_, rfl⟩
           obtain ⟨x3, hu⟩ : ∃ z9 : World, x2.alloc (.cells #[.int .i64 0, .string ⟨#[]⟩, .int .i64 0, .string ⟨#[]⟩, .slice none 0 0, .slice none 0 0, .slice none 0 0] 38) = z9 := ⟨_, rfl⟩
           have MM2 : Hid (Mem w x3 ([.blk nb 38 #[.int .i64 0, .string ⟨#[]⟩, .int .i64 0, .string ⟨#[]⟩, .slice none 0 0, .slice none 0 0, .slice none 0 0], .row 85 2 (.slice Ap y2.props.length np) y2.props.length (y2.props.flatMap propCells), .row 3 1 (.slice Ak y2.kids.length nk) y2.kids.length (y2.kids.map (Value.int .i64)), .row 82 2 (.slice Ar y2.refs.length nr) y2.refs.length (y2.refs.flatMap refCells), .blk w.heap.size 24 #[.int .i64 m.next, .slice (some ⟨b, off, none⟩) n c], .blk (w.heap.size + 1) 24 #[.int .i64 0, .slice none 0 0], .row 3 1 (.slice (some ⟨gk, 0, none⟩) kl c3) kl (KS.map (Value.int .i64)), .mp 3 bm i D, .blk hp 24 #[.int .i64 (m.next + (kl : Int)), vo]] ++ modelC vo lo)) := Lib.hid (by rw [← hu]; exact MM.out.allocG hnb _ _)
           clear MM
           have MM := MM2
           clear MM2
           rw [hu, hnb]
           clear hu hnb
           have hHeldx3 := HSX.out _ MM.out.below (MM.out.blk 4 rfl)
           refine hK.out _ _ (fun _ => HSX.out _ MM.out.below (MM.out.blk 4 rfl)) ?_
           clear hK K
           try simp only [Act.put, List.setIfInBounds_toArray, List.set_cons_zero, List.set_cons_succ, Nat.zero_add]
           refine wpAnyY_one0 (i := 9) rfl (by kernel_rfl) (by kernel_rfl) (fun K hK => ?_)
           have zc0 := (MM.out.blk 0 rfl).cell 0
           have zc1 := (MM.out.blk 0 rfl).cell 1
           have zc2 := (MM.out.blk 0 rfl).cell 2
           have zc3 := (MM.out.blk 0 rfl).cell 3
           have zc4 := (MM.out.blk 0 rfl).cell 4
           have zc5 := (MM.out.blk 0 rfl).cell 5
           have zc6 := (MM.out.blk 0 rfl).cell 6
           have zf0 := (MM.out.blk 0 rfl).frozen 0
           have zf1 := (MM.out.blk 0 rfl).frozen 1
           have zf2 := (MM.out.blk 0 rfl).frozen 2
           have zf3 := (MM.out.blk 0 rfl).frozen 3
           have zf4 := (MM.out.blk 0 rfl).frozen 4
           have zf5 := (MM.out.blk 0 rfl).frozen 5
           have zf6 := (MM.out.blk 0 rfl).frozen 6
           have zlt := (MM.out.blk 0 rfl).lt
           simp at zc0 zc1 zc2 zc3 zc4 zc5 zc6
           go_simp
           refine hK.out _ _ ?_
           clear zf0 zf1 zf2 zf3 zf4 zf5 zf6 zc0 zc1 zc2 zc3 zc4 zc5 zc6 zlt
           clear hK K
           try simp only [Act.put, List.setIfInBounds_toArray, List.set_cons_zero, List.set_cons_succ, Nat.zero_add]
           refine wpAnyY_done (by kernel_rfl) ?_ _
           go_wp2_with fail
           go_meet
           case rel =>
            have MM3 := MM.out.store7 (b0 := .int .i64 y2.id) (b1 := .string y2.concept) (b2 := .int .i64 y2.parent) (b3 := .string y2.role) (b4 := .slice Ap y2.props.length np) (b5 := .slice Ak y2.kids.length nk) (b6 := .slice Ar y2.refs.length nr) 0 rfl
            exact ⟨nb, Ap, np, Ak, nk, Ar, nr, rfl, Mem.pick (f := [.blk nb 38 #[.int .i64 y2.id, .string y2.concept, .int .i64 y2.parent, .string y2.role, .slice Ap y2.props.length np, .slice Ak y2.kids.length nk, .slice Ar y2.refs.length nr], .row 85 2 (.slice Ap y2.props.length np) y2.props.length (y2.props.flatMap propCells), .row 3 1 (.slice Ak y2.kids.length nk) y2.kids.length (y2.kids.map (Value.int .i64)), .row 82 2 (.slice Ar y2.refs.length nr) y2.refs.length (y2.refs.flatMap refCells), .blk w.heap.size 24 #[.int .i64 m.next, .slice (some ⟨b, off, none⟩) n c], .blk (w.heap.size + 1) 24 #[.int .i64 0, .slice none 0 0], .row 3 1 (.slice (some ⟨gk, 0, none⟩) kl c3) kl (KS.map (Value.int .i64)), .mp 3 bm i D, .blk hp 24 #[.int .i64 (m.next + (kl : Int)), vo]]) (t := modelC vo lo) MM3 [0, 1, 2, 3, 4, 5, 6, 7, 8] [.blk nb 38 #[.int .i64 y2.id, .string y2.concept, .int .i64 y2.parent, .string y2.role, .slice Ap y2.props.length np, .slice Ak y2.kids.length nk, .slice Ar y2.refs.length nr], .row 85 2 (.slice Ap y2.props.length np) y2.props.length (y2.props.flatMap propCells), .row 3 1 (.slice Ak y2.kids.length nk) y2.kids.length (y2.kids.map (Value.int .i64)), .row 82 2 (.slice Ar y2.refs.length nr) y2.refs.length (y2.refs.flatMap refCells), .blk w.heap.size 24 #[.int .i64 m.next, .slice (some ⟨b, off, none⟩) n c], .blk (w.heap.size + 1) 24 #[.int .i64 0, .slice none 0 0], .row 3 1 (.slice (some ⟨gk, 0, none⟩) kl c3) kl (KS.map (Value.int .i64)), .mp 3 bm i D, .blk hp 24 #[.int .i64 (m.next + (kl : Int)), vo]] (by decide) rfl⟩
          ·go_simp
           obtain ⟨nb, hnb⟩ : ∃ z, x1.heap.size = z := ⟨_, rfl⟩
           obtain ⟨x5, hu⟩ : ∃ z9 : World, x1.alloc (.cells #[.int .i64 0, .string ⟨#[]⟩, .int .i64 0, .string ⟨#[]⟩, .slice none 0 0, .slice none 0 0, .slice none 0 0] 38) = z9 := ⟨_, rfl⟩
           have MM2 : Hid (Mem w x5 ([.blk nb 38 #[.int .i64 0, .string ⟨#[]⟩, .int .i64 0, .string ⟨#[]⟩, .slice none 0 0, .slice none 0 0, .slice none 0 0], .blk w.heap.size 24 #[.int .i64 m.next, .slice (some ⟨b, off, none⟩) n c], .blk (w.heap.size + 1) 24 #[.int .i64 0, .slice none 0 0], .row 3 1 (.slice (some ⟨gk, 0, none⟩) kl c3) kl (KS.map (Value.int .i64)), .mp 3 bm i D, .blk hp 24 #[.int .i64 (m.next + (kl : Int)), vo]] ++ modelC vo lo)) := Lib.hid (by rw [← hu]; exact MM.out.allocG hnb _ _)
           clear MM
           have MM := MM2
           clear MM2
           rw [hu, hnb]
           clear hu hnb
           have hHeldx5 := HSX.out _ MM.out.below (MM.out.blk 1 rfl)
           refine hK.out _ _ (fun _ => HSX.out _ MM.out.below (MM.out.blk 1 rfl)) ?_
           clear hK K
           try simp only [Act.put, List.setIfInBounds_toArray, List.set_cons_zero, List.set_cons_succ, Nat.zero_add]
           refine wpAnyY_one (i := 7) rfl (by kernel_rfl) (fun K hK => ?_)
           go_simp
           refine (HNL.out _ MM.out.below).mono ?_
           rintro _ x6 ⟨vP, vK, vR, rfl, _, _, _, hb, _, _, _, hol, hcn⟩
           obtain ⟨Ap, np, rfl⟩ : ∃ A c, vP = .slice A y2.props.length c := own_shape hol.p
           obtain ⟨Ak, nk, rfl⟩ : ∃ A c, vK = .slice A y2.kids.length c := hol.k.shape
           obtain ⟨Ar, nr, rfl⟩ : ∃ A c, vR = .slice A y2.refs.length c := own_shape hol.r
           have MM2 : Hid (Mem w x6 ([.row 85 2 (.slice Ap y2.props.length np) y2.props.length (y2.props.flatMap propCells), .row 3 1 (.slice Ak y2.kids.length nk) y2.kids.length (y2.kids.map (Value.int .i64)), .row 82 2 (.slice Ar y2.refs.length nr) y2.refs.length (y2.refs.flatMap refCells), .blk nb 38 #[.int .i64 0, .string ⟨#[]⟩, .int .i64 0, .string ⟨#[]⟩, .slice none 0 0, .slice none 0 0, .slice none 0 0], .blk w.heap.size 24 #[.int .i64 m.next, .slice (some ⟨b, off, none⟩) n c], .blk (w.heap.size + 1) 24 #[.int .i64 0, .slice none 0 0], .row 3 1 (.slice (some ⟨gk, 0, none⟩) kl c3) kl (KS.map (Value.int .i64)), .mp 3 bm i D, .blk hp 24 #[.int .i64 (m.next + (kl : Int)), vo]] ++ modelC vo lo)) := Lib.hid (MM.out.moreL hb hol hcn)
           clear MM
           have MM := MM2
           clear MM2
           clear hb hol hcn
           go_simp
           have hHeldx6 := HSX.out _ MM.out.below (MM.out.blk 4 rfl)
           refine hK.out _ _ (fun _ => HSX.out _ MM.out.below (MM.out.blk 4 rfl)) ?_
           clear hK K
           try simp only [Act.put, List.setIfInBounds_toArray, List.set_cons_zero, List.set_cons_succ, Nat.zero_add]
           refine wpAnyY_one0 (i := 9) rfl (by kernel_rfl) (by kernel_rfl) (fun K hK => ?_)
           have zc0 := (MM.out.blk 3 rfl).cell 0
           have zc1 := (MM.out.blk 3 rfl).cell 1
           have zc2 := (MM.out.blk 3 rfl).cell 2
           have zc3 := (MM.out.blk 3 rfl).cell 3
           have zc4 := (MM.out.blk 3 rfl).cell 4
           have zc5 := (MM.out.blk 3 rfl).cell 5
           have zc6 := (MM.out.blk 3 rfl).cell 6
           have zf0 := (MM.out.blk 3 rfl).frozen 0
           have zf1 := (MM.out.blk 3 rfl).frozen 1
           have zf2 := (MM.out.blk 3 rfl).frozen 2
           have zf3 := (MM.out.blk 3 rfl).frozen 3
           have zf4 := (MM.out.blk 3 rfl).frozen 4
           have zf5 := (MM.out.blk 3 rfl).frozen 5
           have zf6 := (MM.out.blk 3 rfl).frozen 6
           have zlt := (MM.out.blk 3 rfl).lt
           simp at zc0 zc1 zc2 zc3 zc4 zc5 zc6
           go_simp
           refine hK.out _ _ ?_
           clear zf0 zf1 zf2 zf3 zf4 zf5 zf6 zc0 zc1 zc2 zc3 zc4 zc5 zc6 zlt
           clear hK K
           try simp only [Act.put, List.setIfInBounds_toArray, List.set_cons_zero, List.set_cons_succ, Nat.zero_add]
           refine wpAnyY_done (by kernel_rfl) ?_ _
           go_wp2_with fail
           go_meet
           case rel =>
            have MM3 := MM.out.store7 (b0 := .int .i64 y2.id) (b1 := .string y2.concept) (b2 := .int .i64 y2.parent) (b3 := .string y2.role) (b4 := .slice Ap y2.props.length np) (b5 := .slice Ak y2.kids.length nk) (b6 := .slice Ar y2.refs.length nr) 3 rfl
            exact ⟨nb, Ap, np, Ak, nk, Ar, nr, rfl, Mem.pick (f := [.row 85 2 (.slice Ap y2.props.length np) y2.props.length (y2.props.flatMap propCells), .row 3 1 (.slice Ak y2.kids.length nk) y2.kids.length (y2.kids.map (Value.int .i64)), .row 82 2 (.slice Ar y2.refs.length nr) y2.refs.length (y2.refs.flatMap refCells), .blk nb 38 #[.int .i64 y2.id, .string y2.concept, .int .i64 y2.parent, .string y2.role, .slice Ap y2.props.length np, .slice Ak y2.kids.length nk, .slice Ar y2.refs.length nr], .blk w.heap.size 24 #[.int .i64 m.next, .slice (some ⟨b, off, none⟩) n c], .blk (w.heap.size + 1) 24 #[.int .i64 0, .slice none 0 0], .row 3 1 (.slice (some ⟨gk, 0, none⟩) kl c3) kl (KS.map (Value.int .i64)), .mp 3 bm i D, .blk hp 24 #[.int .i64 (m.next + (kl : Int)), vo]]) (t := modelC vo lo) MM3 [3, 0, 1, 2, 4, 5, 6, 7, 8] [.blk nb 38 #[.int .i64 y2.id, .string y2.concept, .int .i64 y2.parent, .string y2.role, .slice Ap y2.props.length np, .slice Ak y2.kids.length nk, .slice Ar y2.refs.length nr], .row 85 2 (.slice Ap y2.props.length np) y2.props.length (y2.props.flatMap propCells), .row 3 1 (.slice Ak y2.kids.length nk) y2.kids.length (y2.kids.map (Value.int .i64)), .row 82 2 (.slice Ar y2.refs.length nr) y2.refs.length (y2.refs.flatMap refCells), .blk w.heap.size 24 #[.int .i64 m.next, .slice (some ⟨b, off, none⟩) n c], .blk (w.heap.size + 1) 24 #[.int .i64 0, .slice none 0 0], .row 3 1 (.slice (some ⟨gk, 0, none⟩) kl c3) kl (KS.map (Value.int .i64)), .mp 3 bm i D, .blk hp 24 #[.int .i64 (m.next + (kl : Int)), vo]] (by decide) rfl⟩
         ·go_simp
          obtain ⟨nb, hnb⟩ : ∃ z, u.heap.size = z := ⟨_, rfl⟩
          obtain ⟨x8, hu⟩ : ∃ z9 : World, u.alloc (.cells #[.int .i64 0, .string ⟨#[]⟩, .int .i64 0, .string ⟨#[]⟩, .slice none 0 0, .slice none 0 0, .slice none 0 0] 38) = z9 := ⟨_, rfl⟩
          have MM2 : Hid (Mem w x8 ([.blk nb 38 #[.int .i64 0, .string ⟨#[]⟩, .int .i64 0, .string ⟨#[]⟩, .slice none 0 0, .slice none 0 0, .slice none 0 0], .blk w.heap.size 24 #[.int .i64 m.next, .slice (some ⟨b, off, none⟩) n c], .blk (w.heap.size + 1) 24 #[.int .i64 0, .slice none 0 0], .row 3 1 (.slice (some ⟨gk, 0, none⟩) kl c3) kl (KS.map (Value.int .i64)), .mp 3 bm i D, .blk hp 24 #[.int .i64 (m.next + (kl : Int)), vo]] ++ modelC vo lo)) := Lib.hid (by rw [← hu]; exact MM.out.allocG hnb _ _)
          clear MM
          have MM := MM2
          clear MM2
          rw [hu, hnb]
          clear hu hnb
          have hHeldx8 := HSX.out _ MM.out.below (MM.out.blk 1 rfl)
          refine hK.out _ _ (fun _ => HSX.out _ MM.out.below (MM.out.blk 1 rfl)) ?_
          clear hK K
          try simp only [Act.put, List.setIfInBounds_toArray, List.set_cons_zero, List.set_cons_succ, Nat.zero_add]
          refine wpAnyY_one (i := 4) rfl (by kernel_rfl) (fun K hK => ?_)
          go_simp
          have HP1 := Lib.hid (HPL.out _ MM.out.below k hin)
          rw [HAK.out] at HP1
          refine HP1.out.mono ?_
          rintro _ x9 ⟨rfl, hb⟩
          have MM2 : Hid (Mem w x9 ([.blk nb 38 #[.int .i64 0, .string ⟨#[]⟩, .int .i64 0, .string ⟨#[]⟩, .slice none 0 0, .slice none 0 0, .slice none 0 0], .blk w.heap.size 24 #[.int .i64 m.next, .slice (some ⟨b, off, none⟩) n c], .blk (w.heap.size + 1) 24 #[.int .i64 0, .slice none 0 0], .row 3 1 (.slice (some ⟨gk, 0, none⟩) kl c3) kl (KS.map (Value.int .i64)), .mp 3 bm i D, .blk hp 24 #[.int .i64 (m.next + (kl : Int)), vo]] ++ modelC vo lo)) := Lib.hid (MM.out.call hb)
          clear MM
          have MM := MM2
          clear MM2
          clear hb HP1
          go_simp
          have hHeldx9 := HSX.out _ MM.out.below (MM.out.blk 1 rfl)
          refine hK.out _ _ (fun _ => HSX.out _ MM.out.below (MM.out.blk 1 rfl)) ?_
          clear hK K
          try simp only [Act.put, List.setIfInBounds_toArray, List.set_cons_zero, List.set_cons_succ, Nat.zero_add]
          refine wpAnyY_take (i := 5) (v := ?_) rfl (by kernel_rfl) (by kernel_rfl) (by kernel_rfl) (by kernel_rfl) (fun _ _ _ h => h) (Or.inl ⟨by rfl, ?_⟩) (by assumption) ?_
          rotate_left 1
          ·(intro w' hSw; obtain ⟨s0, s1, s2, s3, s4, s5, s6, s7, s8⟩ := hSw; go_simp); try with_reducible rfl
          try simp only [Act.put, List.setIfInBounds_toArray, List.set_cons_zero, List.set_cons_succ, Nat.zero_add]
          refine wpAnyY_take (i := 6) (v := ?_) rfl (by kernel_rfl) (by kernel_rfl) (by kernel_rfl) (by kernel_rfl) (fun _ _ _ h => h) (Or.inl ⟨by rfl, ?_⟩) (by assumption) ?_
          rotate_left 1
          ·(intro w' hSw; obtain ⟨s0, s1, s2, s3, s4, s5, s6, s7, s8⟩ := hSw; go_simp); try with_reducible rfl
          try simp only [Act.put, List.setIfInBounds_toArray, List.set_cons_zero, List.set_cons_succ, Nat.zero_add]
          refine wpAnyY_one (i := 7) rfl (by kernel_rfl) (fun K hK => ?_)
          go_simp
          refine (HNL.out _ MM.out.below).mono ?_
          rintro _ x10 ⟨vP, vK, vR, rfl, _, _, _, hb, _, _, _, hol, hcn⟩
          obtain ⟨Ap, np, rfl⟩ : ∃ A c, vP = .slice A y2.props.length c := own_shape hol.p
          obtain ⟨Ak, nk, rfl⟩ : ∃ A c, vK = .slice A y2.kids.length c := hol.k.shape
          obtain ⟨Ar, nr, rfl⟩ : ∃ A c, vR = .slice A y2.refs.length c := own_shape hol.r
          have MM2 : Hid (Mem w x10 ([.row 85 2 (.slice Ap y2.props.length np) y2.props.length (y2.props.flatMap propCells), .row 3 1 (.slice Ak y2.kids.length nk) y2.kids.length (y2.kids.map (Value.int .i64)), .row 82 2 (.slice Ar y2.refs.length nr) y2.refs.length (y2.refs.flatMap refCells), .blk nb 38 #[.int .i64 0, .string ⟨#[]⟩, .int .i64 0, .string ⟨#[]⟩, .slice none 0 0, .slice none 0 0, .slice none 0 0], .blk w.heap.size 24 #[.int .i64 m.next, .slice (some ⟨b, off, none⟩) n c], .blk (w.heap.size + 1) 24 #[.int .i64 0, .slice none 0 0], .row 3 1 (.slice (some ⟨gk, 0, none⟩) kl c3) kl (KS.map (Value.int .i64)), .mp 3 bm i D, .blk hp 24 #[.int .i64 (m.next + (kl : Int)), vo]] ++ modelC vo lo)) := Lib.hid (MM.out.moreL hb hol hcn)
          clear MM
          have MM := MM2
          clear MM2
          clear hb hol hcn
          go_simp
          have hHeldx10 := HSX.out _ MM.out.below (MM.out.blk 4 rfl)
          refine hK.out _ _ (fun _ => HSX.out _ MM.out.below (MM.out.blk 4 rfl)) ?_
          clear hK K
          try simp only [Act.put, List.setIfInBounds_toArray, List.set_cons_zero, List.set_cons_succ, Nat.zero_add]
          refine wpAnyY_one0 (i := 9) rfl (by kernel_rfl) (by kernel_rfl) (fun K hK => ?_)
          have zc0 := (MM.out.blk 3 rfl).cell 0
          have zc1 := (MM.out.blk 3 rfl).cell 1
          have zc2 := (MM.out.blk 3 rfl).cell 2
          have zc3 := (MM.out.blk 3 rfl).cell 3
          have zc4 := (MM.out.blk 3 rfl).cell 4
          have zc5 := (MM.out.blk 3 rfl).cell 5
          have zc6 := (MM.out.blk 3 rfl).cell 6
          have zf0 := (MM.out.blk 3 rfl).frozen 0
          have zf1 := (MM.out.blk 3 rfl).frozen 1
          have zf2 := (MM.out.blk 3 rfl).frozen 2
          have zf3 := (MM.out.blk 3 rfl).frozen 3
          have zf4 := (MM.out.blk 3 rfl).frozen 4
          have zf5 := (MM.out.blk 3 rfl).frozen 5
          have zf6 := (MM.out.blk 3 rfl).frozen 6
          have zlt := (MM.out.blk 3 rfl).lt
          simp at zc0 zc1 zc2 zc3 zc4 zc5 zc6
          go_simp
          refine hK.out _ _ ?_
          clear zf0 zf1 zf2 zf3 zf4 zf5 zf6 zc0 zc1 zc2 zc3 zc4 zc5 zc6 zlt
          clear hK K
          try simp only [Act.put, List.setIfInBounds_toArray, List.set_cons_zero, List.set_cons_succ, Nat.zero_add]
          refine wpAnyY_done (by kernel_rfl) ?_ _
          go_wp2_with fail
          go_meet
          case rel =>
           have MM3 := MM.out.store7 (b0 := .int .i64 y2.id) (b1 := .string y2.concept) (b2 := .int .i64 y2.parent) (b3 := .string y2.role) (b4 := .slice Ap y2.props.length np) (b5 := .slice Ak y2.kids.length nk) (b6 := .slice Ar y2.refs.length nr) 3 rfl
           exact ⟨nb, Ap, np, Ak, nk, Ar, nr, rfl, Mem.pick (f := [.row 85 2 (.slice Ap y2.props.length np) y2.props.length (y2.props.flatMap propCells), .row 3 1 (.slice Ak y2.kids.length nk) y2.kids.length (y2.kids.map (Value.int .i64)), .row 82 2 (.slice Ar y2.refs.length nr) y2.refs.length (y2.refs.flatMap refCells), .blk nb 38 #[.int .i64 y2.id, .string y2.concept, .int .i64 y2.parent, .string y2.role, .slice Ap y2.props.length np, .slice Ak y2.kids.length nk, .slice Ar y2.refs.length nr], .blk w.heap.size 24 #[.int .i64 m.next, .slice (some ⟨b, off, none⟩) n c], .blk (w.heap.size + 1) 24 #[.int .i64 0, .slice none 0 0], .row 3 1 (.slice (some ⟨gk, 0, none⟩) kl c3) kl (KS.map (Value.int .i64)), .mp 3 bm i D, .blk hp 24 #[.int .i64 (m.next + (kl : Int)), vo]]) (t := modelC vo lo) MM3 [3, 0, 1, 2, 4, 5, 6, 7, 8] [.blk nb 38 #[.int .i64 y2.id, .string y2.concept, .int .i64 y2.parent, .string y2.role, .slice Ap y2.props.length np, .slice Ak y2.kids.length nk, .slice Ar y2.refs.length nr], .row 85 2 (.slice Ap y2.props.length np) y2.props.length (y2.props.flatMap propCells), .row 3 1 (.slice Ak y2.kids.length nk) y2.kids.length (y2.kids.map (Value.int .i64)), .row 82 2 (.slice Ar y2.refs.length nr) y2.refs.length (y2.refs.flatMap refCells), .blk w.heap.size 24 #[.int .i64 m.next, .slice (some ⟨b, off, none⟩) n c], .blk (w.heap.size + 1) 24 #[.int .i64 0, .slice none 0 0], .row 3 1 (.slice (some ⟨gk, 0, none⟩) kl c3) kl (KS.map (Value.int .i64)), .mp 3 bm i D, .blk hp 24 #[.int .i64 (m.next + (kl : Int)), vo]] (by decide) rfl⟩
        case rest =>
         obtain ⟨nb, Ap, np, Ak, nk, Ar, nr, rfl, hm⟩ := hcut
         clear MM HPL HNL
         obtain ⟨q0, rfl⟩ : ∃ v : World, v = wc := ⟨_, rfl⟩
         have MM := Lib.hid hm
         clear hm
         have hlk := anew_run (MM.out.map 7 rfl) HMV2.out HND.out (id := k) hin
         rw [show anewI m.next KS k = (m.next + (i2 : Int)) from by unfold anewI; rw [if_pos HKI.out.1, HKI.out.2]] at hlk
         have zc0 := (MM.out.blk 0 rfl).cell 0
         have zf0 := (MM.out.blk 0 rfl).frozen 0
         have zlt := (MM.out.blk 0 rfl).lt
         simp at zc0
         go_upto_region 26 with fail
         clear hlk
         clear zf0 zc0 zlt
         obtain ⟨q1, hu⟩ : ∃ z9 : World, q0.setCell ⟨nb, 0, none⟩ (.int .i64 (m.next + (i2 : Int))) = z9 := ⟨_, rfl⟩
         have MM2 : Hid (Mem w q1 ([.blk nb 38 #[.int .i64 (m.next + (i2 : Int)), .string y2.concept, .int .i64 y2.parent, .string y2.role, .slice Ap y2.props.length np, .slice Ak y2.kids.length nk, .slice Ar y2.refs.length nr], .row 85 2 (.slice Ap y2.props.length np) y2.props.length (y2.props.flatMap propCells), .row 3 1 (.slice Ak y2.kids.length nk) y2.kids.length (y2.kids.map (Value.int .i64)), .row 82 2 (.slice Ar y2.refs.length nr) y2.refs.length (y2.refs.flatMap refCells), .blk w.heap.size 24 #[.int .i64 m.next, .slice (some ⟨b, off, none⟩) n c], .blk (w.heap.size + 1) 24 #[.int .i64 0, .slice none 0 0], .row 3 1 (.slice (some ⟨gk, 0, none⟩) kl c3) kl (KS.map (Value.int .i64)), .mp 3 bm i D, .blk hp 24 #[.int .i64 (m.next + (kl : Int)), vo]] ++ modelC vo lo)) := Lib.hid (by rw [← hu]; exact MM.out.set_ 0 rfl 0 _)
         clear MM
         have MM := MM2
         clear MM2
         rw [hu]
         clear hu
         obtain ⟨pa, hpa⟩ : ∃ z : Int, (if i2 = 0 then 0 else m.next + idxI KS y2.parent) = z := ⟨_, rfl⟩
         have HPA := Lib.hid hpa
         have HAP : Hid (anewI m.next KS y2.parent = pa) := Lib.hid (by
          rw [← hpa]
          by_cases hi0 : i2 = 0
          ·rw [if_pos hi0]
           have hkx : k = x.id := by rw [← HKD.out, hi0, HX.out.2, ← HK0.out]; rfl
           have e : y2 = x := by rw [← HCM.out.tree.nodeOf HY2.out, ← HCM.out.tree.nodeOf HX.out.1, HYK.out, hkx]
           unfold anewI
           rw [if_neg]
           rw [e, ← HKS.out, ← HX.out.2]
           exact HCM.out.tree.parent_out HX.out.1
          ·rw [if_neg hi0]
           have hkb : k ∈ belowL m x.id := by
            have h1 := HKM.out
            rcases List.mem_cons.1 h1 with e | e
            ·have := nodup_inj HND.out (i := i2) (j := 0) (by rw [HKL.out]; exact hlt2) (by rw [HKL.out]; omega) (by rw [← getD_lt, ← getD_lt, HKD.out, e, HX.out.2, ← HK0.out]; rfl)
             omega
            ·exact e
           unfold anewI
           rw [if_pos]
           rw [← HKS.out, ← HX.out.2]
           exact ks_parent HCM.out.tree HX.out.1 HY2.out (by rw [HYK.out]; exact hkb))
         clear hpa
         have hinp : InR y2.parent := HRPP.out y2 HY2.out
         have hlk := anew_run (MM.out.map 7 rfl) HMV2.out HND.out (id := y2.parent) hinp
         rw [show anewI m.next KS y2.parent = pa from HAP.out] at hlk
         have zc2 := (MM.out.blk 0 rfl).cell 2
         have zf2 := (MM.out.blk 0 rfl).frozen 2
         have zlt := (MM.out.blk 0 rfl).lt
         simp at zc2
         go_upto_region 27 with fail
         clear hlk hinp
         clear zf2 zc2 zlt
         obtain ⟨q2, hu⟩ : ∃ z9 : World, q1.setCell ⟨nb, 2, none⟩ (.int .i64 pa) = z9 := ⟨_, rfl⟩
         have MM2 : Hid (Mem w q2 ([.blk nb 38 #[.int .i64 (m.next + (i2 : Int)), .string y2.concept, .int .i64 pa, .string y2.role, .slice Ap y2.props.length np, .slice Ak y2.kids.length nk, .slice Ar y2.refs.length nr], .row 85 2 (.slice Ap y2.props.length np) y2.props.length (y2.props.flatMap propCells), .row 3 1 (.slice Ak y2.kids.length nk) y2.kids.length (y2.kids.map (Value.int .i64)), .row 82 2 (.slice Ar y2.refs.length nr) y2.refs.length (y2.refs.flatMap refCells), .blk w.heap.size 24 #[.int .i64 m.next, .slice (some ⟨b, off, none⟩) n c], .blk (w.heap.size + 1) 24 #[.int .i64 0, .slice none 0 0], .row 3 1 (.slice (some ⟨gk, 0, none⟩) kl c3) kl (KS.map (Value.int .i64)), .mp 3 bm i D, .blk hp 24 #[.int .i64 (m.next + (kl : Int)), vo]] ++ modelC vo lo)) := Lib.hid (by rw [← hu]; exact MM.out.set_ 0 rfl 2 _)
         clear MM
         have MM := MM2
         clear MM2
         rw [hu]
         clear hu
         have zc5 := (MM.out.blk 0 rfl).cell 5
         have zlt := (MM.out.blk 0 rfl).lt
         simp at zc5
         go_wp2_with fail
         clear zc5 zlt
         go_loopg [22, 23, 138] y2.kids.length (fun q s22 s23 s138 wx => ∃ jk : Nat, s138 = .int .i64 jk ∧ q = y2.kids.length - jk ∧ jk ≤ y2.kids.length ∧ Mem w wx ([.blk nb 38 #[.int .i64 (m.next + (i2 : Int)), .string y2.concept, .int .i64 pa, .string y2.role, .slice Ap y2.props.length np, .slice Ak y2.kids.length nk, .slice Ar y2.refs.length nr], .row 85 2 (.slice Ap y2.props.length np) y2.props.length (y2.props.flatMap propCells), .row 3 1 (.slice Ak y2.kids.length nk) y2.kids.length ((partTo (fun k => m.next + idxI KS k) y2.kids jk).map (Value.int .i64)), .row 82 2 (.slice Ar y2.refs.length nr) y2.refs.length (y2.refs.flatMap refCells), .blk w.heap.size 24 #[.int .i64 m.next, .slice (some ⟨b, off, none⟩) n c], .blk (w.heap.size + 1) 24 #[.int .i64 0, .slice none 0 0], .row 3 1 (.slice (some ⟨gk, 0, none⟩) kl c3) kl (KS.map (Value.int .i64)), .mp 3 bm i D, .blk hp 24 #[.int .i64 (m.next + (kl : Int)), vo]] ++ modelC vo lo))
         case atStart => exact ⟨0, rfl, rfl, Nat.zero_le _, by rw [partTo_zero]; exact MM.out⟩
         case round =>
          clear MM
          obtain ⟨jk, rfl, rfl, hjk, hm⟩ := hrel
          have MM := Lib.hid hm
          clear hm
          by_cases hlk : jk < y2.kids.length
          ·have hplen : (partTo (fun k => m.next + idxI KS k) y2.kids jk).length = y2.kids.length := partTo_len _
           have hkb := HK4.out y2 HY2.out
           obtain ⟨gq, capq, e, _, _, _, _⟩ := own_some (MM.out.row 2 rfl) (by omega)
           injection e with e1 e3 e2
           clear e3
           subst e1; subst e2
           obtain ⟨kj, hkj⟩ : ∃ z, y2.kids[jk] = z := ⟨_, rfl⟩
           have hkjm : kj ∈ y2.kids := by rw [← hkj]; exact List.getElem_mem hlk
           have hkjr : InR kj := HRK.out y2 HY2.out kj hkjm
           have HKJ : Hid (kj ∈ KS) := Lib.hid (by rw [← HKS.out, ← HX.out.2]; exact List.mem_cons_of_mem _ (ks_kids HCM.out.tree HX.out.1 HY2.out (by rw [HYK.out]; exact HKM.out) hkjm))
           have kc : wr.cell? ⟨gq, jk, none⟩ = some (.int .i64 kj) := by
            rw [own_cell (MM.out.row 2 rfl) jk (by omega), List.getElem?_map, List.getElem?_eq_getElem (by omega), partTo_at hlk, hkj]; rfl
           have fc : wr.frozen? ⟨gq, jk, none⟩ = false := own_frozen (MM.out.row 2 rfl) jk
           have HSET : Hid (((partTo (fun k => m.next + idxI KS k) y2.kids jk).map (Value.int .i64)).set jk (.int .i64 (m.next + idxI KS kj)) = (partTo (fun k => m.next + idxI KS k) y2.kids (jk + 1)).map (Value.int .i64)) := Lib.hid (by rw [← partTo_set hlk, hkj, List.map_set])
           have k1 : (jk : Int) < y2.kids.length := by omega
           have k0 : (0 : Int) ≤ jk := by omega
           clear hkj hkjm hplen
           have hlk := anew_run (MM.out.map 7 rfl) HMV2.out HND.out (id := kj) hkjr
           rw [show anewI m.next KS kj = m.next + idxI KS kj from by unfold anewI; rw [if_pos HKJ.out]] at hlk
           have zc5 := (MM.out.blk 0 rfl).cell 5
           have zlt := (MM.out.blk 0 rfl).lt
           simp at zc5
           go_upto_region 31 with fail
           clear kc fc hkjr
           clear zc5 zlt
           obtain ⟨q3, hu⟩ : ∃ z9 : World, wr.setCell ⟨gq, jk, none⟩ (.int .i64 (m.next + idxI KS kj)) = z9 := ⟨_, rfl⟩
           have MM2 : Hid (Mem w q3 ([.blk nb 38 #[.int .i64 (m.next + (i2 : Int)), .string y2.concept, .int .i64 pa, .string y2.role, .slice Ap y2.props.length np, .slice (some ⟨gq, 0, none⟩) y2.kids.length nk, .slice Ar y2.refs.length nr], .row 85 2 (.slice Ap y2.props.length np) y2.props.length (y2.props.flatMap propCells), .row 3 1 (.slice (some ⟨gq, 0, none⟩) y2.kids.length nk) y2.kids.length ((partTo (fun k => m.next + idxI KS k) y2.kids (jk + 1)).map (Value.int .i64)), .row 82 2 (.slice Ar y2.refs.length nr) y2.refs.length (y2.refs.flatMap refCells), .blk w.heap.size 24 #[.int .i64 m.next, .slice (some ⟨b, off, none⟩) n c], .blk (w.heap.size + 1) 24 #[.int .i64 0, .slice none 0 0], .row 3 1 (.slice (some ⟨gk, 0, none⟩) kl c3) kl (KS.map (Value.int .i64)), .mp 3 bm i D, .blk hp 24 #[.int .i64 (m.next + (kl : Int)), vo]] ++ modelC vo lo)) := Lib.hid (by rw [← hu]; exact (by rw [← HSET.out]; exact MM.out.setR 2 rfl (by omega) _))
           clear MM
           have MM := MM2
           clear MM2
           rw [hu]
           clear hu
           go_wp2_with fail
           go_roundg (y2.kids.length - (jk + 1))
           case measure => omega
           case rel => exact ⟨jk + 1, by go_num, rfl, by omega, MM.out⟩
          ·have k9 : ¬ (jk : Int) < y2.kids.length := by omega
           rw [partTo_all (show y2.kids.length ≤ jk by omega)] at MM
           have zc6 := (MM.out.blk 0 rfl).cell 6
           have zlt := (MM.out.blk 0 rfl).lt
           simp at zc6
           go_wp2_with fail
           clear k9 hjk hlk
           clear zc6 zlt
           go_loopg [24, 25, 26, 27, 154] y2.refs.length (fun q s24 s25 s26 s27 s154 wx => ∃ jr : Nat, s154 = .int .i64 jr ∧ q = y2.refs.length - jr ∧ jr ≤ y2.refs.length ∧ Mem w wx ([.blk nb 38 #[.int .i64 (m.next + (i2 : Int)), .string y2.concept, .int .i64 pa, .string y2.role, .slice Ap y2.props.length np, .slice Ak y2.kids.length nk, .slice Ar y2.refs.length nr], .row 85 2 (.slice Ap y2.props.length np) y2.props.length (y2.props.flatMap propCells), .row 3 1 (.slice Ak y2.kids.length nk) y2.kids.length ((y2.kids.map (fun k => m.next + idxI KS k)).map (Value.int .i64)), .row 82 2 (.slice Ar y2.refs.length nr) y2.refs.length ((partTo (refTo m.next KS) y2.refs jr).flatMap refCells), .blk w.heap.size 24 #[.int .i64 m.next, .slice (some ⟨b, off, none⟩) n c], .blk (w.heap.size + 1) 24 #[.int .i64 0, .slice none 0 0], .row 3 1 (.slice (some ⟨gk, 0, none⟩) kl c3) kl (KS.map (Value.int .i64)), .mp 3 bm i D, .blk hp 24 #[.int .i64 (m.next + (kl : Int)), vo]] ++ modelC vo lo))
           case atStart => exact ⟨0, rfl, rfl, Nat.zero_le _, by rw [partTo_zero]; exact MM.out⟩
           case round =>
            clear MM
            obtain ⟨jr, rfl, rfl, hjr, hm⟩ := hrel
            have MM := Lib.hid hm
            clear hm
            by_cases hlr : jr < y2.refs.length
            ·have hplen : (partTo (refTo m.next KS) y2.refs jr).length = y2.refs.length := partTo_len _
             have hrb := (HZ'.out y2 HY2.out).2.2
             obtain ⟨gq, capq, e, _, _, _, _⟩ := own_some (MM.out.row 3 rfl) (by omega)
             injection e with e1 e3 e2
             clear e3
             subst e1; subst e2
             obtain ⟨rj, hrj⟩ : ∃ z, y2.refs[jr] = z := ⟨_, rfl⟩
             have hrjm : rj ∈ y2.refs := by rw [← hrj]; exact List.getElem_mem hlr
             have hrr : InR rj.target := by
              have h1 := (HCM.out.2.1 y2 HY2.out).2.2.2.2.2
              have h2 := (h1 jr hlr).2.1
              have h3 := (h1 jr hlr).2.2.1
              rw [hrj] at h2 h3
              exact ⟨by omega, by omega⟩
             have rc0 : wr.cell? ⟨gq, jr * 2, none⟩ = some (.string rj.role) := by
              rw [own_cell (MM.out.row 3 rfl) (jr * 2) (by omega), show jr * 2 = jr * 2 + 0 from rfl, flat_at refCells_len _ jr 0 (by omega) (by omega), partTo_at hlr, hrj]; rfl
             have rc1 : wr.cell? ⟨gq, jr * 2 + 1, none⟩ = some (.int .i64 rj.target) := by
              rw [own_cell (MM.out.row 3 rfl) (jr * 2 + 1) (by omega), flat_at refCells_len _ jr 1 (by omega) (by omega), partTo_at hlr, hrj]; rfl
             have HRJ := Lib.hid hrj
             have k1 : (jr : Int) < y2.refs.length := by omega
             have k0 : (0 : Int) ≤ jr := by omega
             clear hrj hrjm hplen
             go_upto_region 35 with fail
             clear rc0 rc1
             obtain ⟨gr, hgr⟩ : ∃ z, wr.heap.size = z := ⟨_, rfl⟩
             obtain ⟨u, hu⟩ : ∃ z9 : World, wr.alloc (.cells #[.string rj.role, .int .i64 rj.target] 82) = z9 := ⟨_, rfl⟩
             have MM2 : Hid (Mem w u ([.blk gr 82 #[.string rj.role, .int .i64 rj.target], .blk nb 38 #[.int .i64 (m.next + (i2 : Int)), .string y2.concept, .int .i64 pa, .string y2.role, .slice Ap y2.props.length np, .slice Ak y2.kids.length nk, .slice (some ⟨gq, 0, none⟩) y2.refs.length nr], .row 85 2 (.slice Ap y2.props.length np) y2.props.length (y2.props.flatMap propCells), .row 3 1 (.slice Ak y2.kids.length nk) y2.kids.length ((y2.kids.map (fun k => m.next + idxI KS k)).map (Value.int .i64)), .row 82 2 (.slice (some ⟨gq, 0, none⟩) y2.refs.length nr) y2.refs.length ((partTo (refTo m.next KS) y2.refs jr).flatMap refCells), .blk w.heap.size 24 #[.int .i64 m.next, .slice (some ⟨b, off, none⟩) n c], .blk (w.heap.size + 1) 24 #[.int .i64 0, .slice none 0 0], .row 3 1 (.slice (some ⟨gk, 0, none⟩) kl c3) kl (KS.map (Value.int .i64)), .mp 3 bm i D, .blk hp 24 #[.int .i64 (m.next + (kl : Int)), vo]] ++ modelC vo lo)) := Lib.hid (by rw [← hu]; exact MM.out.allocG hgr _ _)
             clear MM
             have MM := MM2
             clear MM2
             rw [hu, hgr]
             clear hu hgr
             have rc1 := (MM.out.blk 0 rfl).cell 1
             have rlt := (MM.out.blk 0 rfl).lt
             simp at rc1
             have hlk := anew_ok_run (MM.out.map 8 rfl) HMV2.out HND.out (id := rj.target) hrr
             by_cases hkt : rj.target ∈ KS
             rotate_left 1
             ·rw [show KS.contains rj.target = false by cases h : KS.contains rj.target with | false => rfl | true => exact absurd (List.contains_iff_mem.1 h) hkt] at hlk
              have HSK : Hid (partTo (refTo m.next KS) y2.refs jr = partTo (refTo m.next KS) y2.refs (jr + 1)) := Lib.hid (partTo_skip hlr (by rw [HRJ.out]; unfold refTo; rw [if_neg hkt]))
              clear hkt
              go_wp2_with fail
              clear hlk hrr
              clear rc1 rlt
              have MM2 : Hid (Mem w u ([.blk nb 38 #[.int .i64 (m.next + (i2 : Int)), .string y2.concept, .int .i64 pa, .string y2.role, .slice Ap y2.props.length np, .slice Ak y2.kids.length nk, .slice (some ⟨gq, 0, none⟩) y2.refs.length nr], .row 85 2 (.slice Ap y2.props.length np) y2.props.length (y2.props.flatMap propCells), .row 3 1 (.slice Ak y2.kids.length nk) y2.kids.length ((y2.kids.map (fun k => m.next + idxI KS k)).map (Value.int .i64)), .row 82 2 (.slice (some ⟨gq, 0, none⟩) y2.refs.length nr) y2.refs.length ((partTo (refTo m.next KS) y2.refs jr).flatMap refCells), .blk w.heap.size 24 #[.int .i64 m.next, .slice (some ⟨b, off, none⟩) n c], .blk (w.heap.size + 1) 24 #[.int .i64 0, .slice none 0 0], .row 3 1 (.slice (some ⟨gk, 0, none⟩) kl c3) kl (KS.map (Value.int .i64)), .mp 3 bm i D, .blk hp 24 #[.int .i64 (m.next + (kl : Int)), vo]] ++ modelC vo lo)) := Lib.hid (Mem.pick MM.out [1, 2, 3, 4, 5, 6, 7, 8, 9] [.blk nb 38 #[.int .i64 (m.next + (i2 : Int)), .string y2.concept, .int .i64 pa, .string y2.role, .slice Ap y2.props.length np, .slice Ak y2.kids.length nk, .slice (some ⟨gq, 0, none⟩) y2.refs.length nr], .row 85 2 (.slice Ap y2.props.length np) y2.props.length (y2.props.flatMap propCells), .row 3 1 (.slice Ak y2.kids.length nk) y2.kids.length ((y2.kids.map (fun k => m.next + idxI KS k)).map (Value.int .i64)), .row 82 2 (.slice (some ⟨gq, 0, none⟩) y2.refs.length nr) y2.refs.length ((partTo (refTo m.next KS) y2.refs jr).flatMap refCells), .blk w.heap.size 24 #[.int .i64 m.next, .slice (some ⟨b, off, none⟩) n c], .blk (w.heap.size + 1) 24 #[.int .i64 0, .slice none 0 0], .row 3 1 (.slice (some ⟨gk, 0, none⟩) kl c3) kl (KS.map (Value.int .i64)), .mp 3 bm i D, .blk hp 24 #[.int .i64 (m.next + (kl : Int)), vo]] (by decide) rfl)
              clear MM
              have MM := MM2
              clear MM2
              go_roundg (y2.refs.length - (jr + 1))
              case measure => omega
              case rel => exact ⟨jr + 1, by go_num, rfl, by omega, by rw [← HSK.out]; exact MM.out⟩
             rw [show KS.contains rj.target = true from List.contains_iff_mem.2 hkt, show anewI m.next KS rj.target = m.next + idxI KS rj.target by unfold anewI; rw [if_pos hkt]] at hlk
             have HSET : Hid (((partTo (refTo m.next KS) y2.refs jr).flatMap refCells).set (jr * 2 + 1) (.int .i64 (m.next + idxI KS rj.target)) = (partTo (refTo m.next KS) y2.refs (jr + 1)).flatMap refCells) := Lib.hid (by
              rw [← partTo_set hlr]
              refine (flat_set refCells_len _ jr 1 (by rw [partTo_len]; exact hlr) (by omega) _ _ ?_).symm
              rw [partTo_at hlr, HRJ.out]
              unfold refTo
              rw [if_pos hkt]; rfl)
             have fc : u.frozen? ⟨gq, jr * 2 + 1, none⟩ = false := own_frozen (MM.out.row 4 rfl) _
             have rc : u.cell? ⟨gq, jr * 2 + 1, none⟩ = some (.int .i64 rj.target) := by
              rw [own_cell (MM.out.row 4 rfl) (jr * 2 + 1) (by omega), flat_at refCells_len _ jr 1 (by rw [partTo_len]; exact hlr) (by omega), partTo_at hlr, HRJ.out]; rfl
             clear hkt
             have zc6 := (MM.out.blk 1 rfl).cell 6
             have zlt := (MM.out.blk 1 rfl).lt
             simp at zc6
             go_upto_region 38 with fail
             clear fc rc hrr
             clear rc1 rlt zc6 zlt
             obtain ⟨u2, hu⟩ : ∃ z9 : World, u.setCell ⟨gq, jr * 2 + 1, none⟩ (.int .i64 (m.next + idxI KS rj.target)) = z9 := ⟨_, rfl⟩
             have MM2 : Hid (Mem w u2 ([.blk gr 82 #[.string rj.role, .int .i64 rj.target], .blk nb 38 #[.int .i64 (m.next + (i2 : Int)), .string y2.concept, .int .i64 pa, .string y2.role, .slice Ap y2.props.length np, .slice Ak y2.kids.length nk, .slice (some ⟨gq, 0, none⟩) y2.refs.length nr], .row 85 2 (.slice Ap y2.props.length np) y2.props.length (y2.props.flatMap propCells), .row 3 1 (.slice Ak y2.kids.length nk) y2.kids.length ((y2.kids.map (fun k => m.next + idxI KS k)).map (Value.int .i64)), .row 82 2 (.slice (some ⟨gq, 0, none⟩) y2.refs.length nr) y2.refs.length ((partTo (refTo m.next KS) y2.refs (jr + 1)).flatMap refCells), .blk w.heap.size 24 #[.int .i64 m.next, .slice (some ⟨b, off, none⟩) n c], .blk (w.heap.size + 1) 24 #[.int .i64 0, .slice none 0 0], .row 3 1 (.slice (some ⟨gk, 0, none⟩) kl c3) kl (KS.map (Value.int .i64)), .mp 3 bm i D, .blk hp 24 #[.int .i64 (m.next + (kl : Int)), vo]] ++ modelC vo lo)) := Lib.hid (by rw [← hu]; exact (by rw [← HSET.out]; exact MM.out.setR 4 rfl (by omega) _))
             clear MM
             have MM := MM2
             clear MM2
             rw [hu]
             clear hu
             have MM2 : Hid (Mem w u2 ([.blk nb 38 #[.int .i64 (m.next + (i2 : Int)), .string y2.concept, .int .i64 pa, .string y2.role, .slice Ap y2.props.length np, .slice Ak y2.kids.length nk, .slice (some ⟨gq, 0, none⟩) y2.refs.length nr], .row 85 2 (.slice Ap y2.props.length np) y2.props.length (y2.props.flatMap propCells), .row 3 1 (.slice Ak y2.kids.length nk) y2.kids.length ((y2.kids.map (fun k => m.next + idxI KS k)).map (Value.int .i64)), .row 82 2 (.slice (some ⟨gq, 0, none⟩) y2.refs.length nr) y2.refs.length ((partTo (refTo m.next KS) y2.refs (jr + 1)).flatMap refCells), .blk w.heap.size 24 #[.int .i64 m.next, .slice (some ⟨b, off, none⟩) n c], .blk (w.heap.size + 1) 24 #[.int .i64 0, .slice none 0 0], .row 3 1 (.slice (some ⟨gk, 0, none⟩) kl c3) kl (KS.map (Value.int .i64)), .mp 3 bm i D, .blk hp 24 #[.int .i64 (m.next + (kl : Int)), vo]] ++ modelC vo lo)) := Lib.hid (Mem.pick MM.out [1, 2, 3, 4, 5, 6, 7, 8, 9] [.blk nb 38 #[.int .i64 (m.next + (i2 : Int)), .string y2.concept, .int .i64 pa, .string y2.role, .slice Ap y2.props.length np, .slice Ak y2.kids.length nk, .slice (some ⟨gq, 0, none⟩) y2.refs.length nr], .row 85 2 (.slice Ap y2.props.length np) y2.props.length (y2.props.flatMap propCells), .row 3 1 (.slice Ak y2.kids.length nk) y2.kids.length ((y2.kids.map (fun k => m.next + idxI KS k)).map (Value.int .i64)), .row 82 2 (.slice (some ⟨gq, 0, none⟩) y2.refs.length nr) y2.refs.length ((partTo (refTo m.next KS) y2.refs (jr + 1)).flatMap refCells), .blk w.heap.size 24 #[.int .i64 m.next, .slice (some ⟨b, off, none⟩) n c], .blk (w.heap.size + 1) 24 #[.int .i64 0, .slice none 0 0], .row 3 1 (.slice (some ⟨gk, 0, none⟩) kl c3) kl (KS.map (Value.int .i64)), .mp 3 bm i D, .blk hp 24 #[.int .i64 (m.next + (kl : Int)), vo]] (by decide) rfl)
             clear MM
             have MM := MM2
             clear MM2
             go_wp2_with fail
             go_roundg (y2.refs.length - (jr + 1))
             case measure => omega
             case rel => exact ⟨jr + 1, by go_num, rfl, by omega, MM.out⟩
            ·have k9 : ¬ (jr : Int) < y2.refs.length := by omega
             rw [partTo_all (show y2.refs.length ≤ jr by omega)] at MM
             obtain ⟨Av, cv, rfl⟩ : ∃ A c, vo = .slice A lo.length c := own_shape MM.out.ownM.row
             have zc0 := (MM.out.blk 0 rfl).cell 0
             have zc1 := (MM.out.blk 0 rfl).cell 1
             have zc2 := (MM.out.blk 0 rfl).cell 2
             have zc3 := (MM.out.blk 0 rfl).cell 3
             have zc4 := (MM.out.blk 0 rfl).cell 4
             have zc5 := (MM.out.blk 0 rfl).cell 5
             have zc6 := (MM.out.blk 0 rfl).cell 6
             have zlt := (MM.out.blk 0 rfl).lt
             simp at zc0 zc1 zc2 zc3 zc4 zc5 zc6
             have pc0 := (MM.out.blk 8 rfl).cell 0
             have pc1 := (MM.out.blk 8 rfl).cell 1
             have plt := (MM.out.blk 8 rfl).lt
             simp at pc0 pc1
             go_upto_region 39 with fail
             clear k9 hjr hlr
             have hlol : lo.length ≤ 8192 := by rw [HLO.out]; omega
             have hs5 : w.heap.size ≤ wr.heap.size := MM.out.size
             have MM2 : Hid (Mem w (wr.alloc (.cells #[.int .i64 (m.next + (i2 : Int)), .string y2.concept, .int .i64 pa, .string y2.role, .slice Ap y2.props.length np, .slice Ak y2.kids.length nk, .slice Ar y2.refs.length nr] 38)) ([.blk wr.heap.size 38 #[.int .i64 (m.next + (i2 : Int)), .string y2.concept, .int .i64 pa, .string y2.role, .slice Ap y2.props.length np, .slice Ak y2.kids.length nk, .slice Ar y2.refs.length nr], .blk nb 38 #[.int .i64 (m.next + (i2 : Int)), .string y2.concept, .int .i64 pa, .string y2.role, .slice Ap y2.props.length np, .slice Ak y2.kids.length nk, .slice Ar y2.refs.length nr], .row 85 2 (.slice Ap y2.props.length np) y2.props.length (y2.props.flatMap propCells), .row 3 1 (.slice Ak y2.kids.length nk) y2.kids.length ((y2.kids.map (fun k => m.next + idxI KS k)).map (Value.int .i64)), .row 82 2 (.slice Ar y2.refs.length nr) y2.refs.length ((y2.refs.map (refTo m.next KS)).flatMap refCells), .blk w.heap.size 24 #[.int .i64 m.next, .slice (some ⟨b, off, none⟩) n c], .blk (w.heap.size + 1) 24 #[.int .i64 0, .slice none 0 0], .row 3 1 (.slice (some ⟨gk, 0, none⟩) kl c3) kl (KS.map (Value.int .i64)), .mp 3 bm i D, .blk hp 24 #[.int .i64 (m.next + (kl : Int)), .slice Av lo.length cv]] ++ modelC (.slice Av lo.length cv) lo)) := Lib.hid (MM.out.allocG rfl _ _)
             clear MM
             have MM := MM2
             clear MM2
             have HNEW : Hid (∀ ad : Addr, (some ⟨wr.heap.size, 0, none⟩ : Option Addr) = some ad → ∀ j u, (LN.cells (⟨copyN m KS i2 y2, .slice Ap y2.props.length np, .slice Ak y2.kids.length nk, .slice Ar y2.refs.length nr⟩ : LN))[j]? = some u → (wr.alloc (.cells #[.int .i64 (m.next + (i2 : Int)), .string y2.concept, .int .i64 pa, .string y2.role, .slice Ap y2.props.length np, .slice Ak y2.kids.length nk, .slice Ar y2.refs.length nr] 38)).cell? (ad.add j) = some u) := Lib.hid (by
              intro ad e j u hu
              cases e
              refine news_cells (MM.out.blk 0 rfl) j u ?_
              rw [← HPA.out]
              exact hu)
             have HOM := Lib.hid MM.out.ownM
             go_wp2_with (at_builtin; refine wpList_append_from _ rfl (.tmp 175) (.tmp 177) 22 rfl w.heap.size 38 Try.underlying22 node_info rfl (by omega) (.slice Av lo.length cv) lo.length (lo.flatMap LN.cells) (by first | rfl | simp [Act.eval]) HOM.out.row (some ⟨wr.heap.size, 0, none⟩) 1 1 (LN.cells (⟨copyN m KS i2 y2, .slice Ap y2.props.length np, .slice Ak y2.kids.length nk, .slice Ar y2.refs.length nr⟩ : LN)) (by first | rfl | simp [Act.eval]) rfl (by simp) HNEW.out (fun u hu => by simp only [LN.cells, nodeCellsA, copyN, List.mem_cons, List.not_mem_nil, or_false] at hu; rcases hu with rfl | rfl | rfl | rfl | rfl | rfl | rfl <;> rfl) (by unfold maxLen; omega) (by omega) (by simp; omega) ?_)
             intro A6 c6 w6 own6 hg6 hat6
             clear zc0 zc1 zc2 zc3 zc4 zc5 zc6 zlt pc0 pc1 plt
             have MM2 : Hid (Mem w (wr.alloc (.cells #[.int .i64 (m.next + (i2 : Int)), .string y2.concept, .int .i64 pa, .string y2.role, .slice Ap y2.props.length np, .slice Ak y2.kids.length nk, .slice Ar y2.refs.length nr] 38)) ([.row 85 2 (.slice Ap y2.props.length np) y2.props.length (y2.props.flatMap propCells), .row 3 1 (.slice Ak y2.kids.length nk) y2.kids.length ((y2.kids.map (fun k => m.next + idxI KS k)).map (Value.int .i64)), .row 82 2 (.slice Ar y2.refs.length nr) y2.refs.length ((y2.refs.map (refTo m.next KS)).flatMap refCells), .blk w.heap.size 24 #[.int .i64 m.next, .slice (some ⟨b, off, none⟩) n c], .blk (w.heap.size + 1) 24 #[.int .i64 0, .slice none 0 0], .row 3 1 (.slice (some ⟨gk, 0, none⟩) kl c3) kl (KS.map (Value.int .i64)), .mp 3 bm i D, .blk hp 24 #[.int .i64 (m.next + (kl : Int)), .slice Av lo.length cv]] ++ modelC (.slice Av lo.length cv) lo)) := Lib.hid (Mem.pick MM.out [2, 3, 4, 5, 6, 7, 8, 9] [.row 85 2 (.slice Ap y2.props.length np) y2.props.length (y2.props.flatMap propCells), .row 3 1 (.slice Ak y2.kids.length nk) y2.kids.length ((y2.kids.map (fun k => m.next + idxI KS k)).map (Value.int .i64)), .row 82 2 (.slice Ar y2.refs.length nr) y2.refs.length ((y2.refs.map (refTo m.next KS)).flatMap refCells), .blk w.heap.size 24 #[.int .i64 m.next, .slice (some ⟨b, off, none⟩) n c], .blk (w.heap.size + 1) 24 #[.int .i64 0, .slice none 0 0], .row 3 1 (.slice (some ⟨gk, 0, none⟩) kl c3) kl (KS.map (Value.int .i64)), .mp 3 bm i D, .blk hp 24 #[.int .i64 (m.next + (kl : Int)), .slice Av lo.length cv]] (by decide) rfl)
             clear MM
             have MM := MM2
             clear MM2
             have MM3 : Hid (Mem w (wr.alloc (.cells #[.int .i64 (m.next + (i2 : Int)), .string y2.concept, .int .i64 pa, .string y2.role, .slice Ap y2.props.length np, .slice Ak y2.kids.length nk, .slice Ar y2.refs.length nr] 38)) (LN.chunks (⟨copyN m KS i2 y2, .slice Ap y2.props.length np, .slice Ak y2.kids.length nk, .slice Ar y2.refs.length nr⟩ : LN) ++ ([.blk w.heap.size 24 #[.int .i64 m.next, .slice (some ⟨b, off, none⟩) n c], .blk (w.heap.size + 1) 24 #[.int .i64 0, .slice none 0 0], .row 3 1 (.slice (some ⟨gk, 0, none⟩) kl c3) kl (KS.map (Value.int .i64)), .mp 3 bm i D, .blk hp 24 #[.int .i64 (m.next + (kl : Int)), .slice Av lo.length cv]] ++ modelC (.slice Av lo.length cv) lo))) := Lib.hid (MM.out.cast (by simp [LN.chunks, copyN]))
             clear MM HOM HNEW
             have MM : Hid (Mem w w6 ([.blk w.heap.size 24 #[.int .i64 m.next, .slice (some ⟨b, off, none⟩) n c], .blk (w.heap.size + 1) 24 #[.int .i64 0, .slice none 0 0], .row 3 1 (.slice (some ⟨gk, 0, none⟩) kl c3) kl (KS.map (Value.int .i64)), .mp 3 bm i D, .blk hp 24 #[.int .i64 (m.next + (kl : Int)), .slice Av lo.length cv]] ++ modelC (.slice A6 (lo.length + 1) c6) (lo ++ [(⟨copyN m KS i2 y2, .slice Ap y2.props.length np, .slice Ak y2.kids.length nk, .slice Ar y2.refs.length nr⟩ : LN)]))) := Lib.hid (MM3.out.pushM hg6 (by rcases hat6 with e | e; exact .inl e; exact .inr (by rw [e]; simp)) own6)
             have HMP : Hid ((lo ++ [(⟨copyN m KS i2 y2, .slice Ap y2.props.length np, .slice Ak y2.kids.length nk, .slice Ar y2.refs.length nr⟩ : LN)]).map LN.n = m.nodes ++ copiesTo m KS (i2 + 1)) := Lib.hid (by
              rw [List.map_append, HLM.out, copiesTo, HNO.out, List.append_assoc]; rfl)
             have hik3 : i2 + 1 ≤ kl := by omega
             clear MM3 own6 hg6 hat6
             have pc0 := (MM.out.blk 4 rfl).cell 0
             have pc1 := (MM.out.blk 4 rfl).cell 1
             have pf1 := (MM.out.blk 4 rfl).frozen 1
             have plt := (MM.out.blk 4 rfl).lt
             simp at pc0 pc1
             go_upto_region 40 with fail
             clear pf1 pc0 pc1 plt
             obtain ⟨w7, hu⟩ : ∃ z9 : World, w6.setCell ⟨hp, 1, none⟩ (.slice A6 (lo.length + 1) c6) = z9 := ⟨_, rfl⟩
             have MM2 : Hid (Mem w w7 ([.blk w.heap.size 24 #[.int .i64 m.next, .slice (some ⟨b, off, none⟩) n c], .blk (w.heap.size + 1) 24 #[.int .i64 0, .slice none 0 0], .row 3 1 (.slice (some ⟨gk, 0, none⟩) kl c3) kl (KS.map (Value.int .i64)), .mp 3 bm i D, .blk hp 24 #[.int .i64 (m.next + (kl : Int)), .slice A6 (lo.length + 1) c6]] ++ modelC (.slice A6 (lo.length + 1) c6) (lo ++ [(⟨copyN m KS i2 y2, .slice Ap y2.props.length np, .slice Ak y2.kids.length nk, .slice Ar y2.refs.length nr⟩ : LN)]))) := Lib.hid (by rw [← hu]; exact MM.out.set_ 4 rfl 1 _)
             clear MM
             have MM := MM2
             clear MM2
             rw [hu]
             clear hu
             go_wp2_with fail
             go_roundg (kl - (i2 + 1))
             case measure => omega
             case rel => exact ⟨i2 + 1, _, _, by go_num, rfl, hik3, MM.out, HMP.out⟩
       ·have k9 : ¬ (i2 : Int) < kl := by omega
        have hie : i2 = kl := by omega
        obtain ⟨Av, cv, rfl⟩ : ∃ A c, vo = .slice A lo.length c := own_shape MM.out.ownM.row
        have hlo : lo.length = n + kl := by rw [HLO.out, hie]
        have HMP : Hid (lo.map LN.n = m.nodes ++ copiesTo m (ksL m x.id) (ksL m x.id).length) := Lib.hid (by rw [HLM.out, HX.out.2, HKS.out, HKL.out, hie])
        have HMR : Hid (m.next + (ksL m x.id).length ≤ 1048577) := Lib.hid (by rw [HX.out.2, HKS.out, HKL.out]; omega)
        obtain ⟨gO, capO, e, _, _, _, _⟩ := own_some MM.out.ownM.row (by omega)
        injection e with e1 e3 e2
        clear e3
        subst e1; subst e2
        obtain ⟨y0, hy0, hy0p, hy0i, hat0⟩ := copies_at0 (x := x) HCM.out HMR.out
        rw [← HMP.out, HN.out] at hy0
        have hnl : n < lo.length := by omega
        have HC0 : Hid ((lo.flatMap LN.cells)[n * 7 + 2]? = some (.int .i64 0)) := Lib.hid (by
         rw [flat_at LN.cells_len lo n 2 hnl (by omega)]
         rw [List.getElem?_map, List.getElem?_eq_getElem hnl] at hy0
         injection hy0 with hy0
         show some (Value.int .i64 lo[n].n.parent) = _
         rw [hy0, hy0p])
        have HA0 : Hid (atI (lo.map LN.n) m.next = n) := Lib.hid (by rw [HMP.out, hat0, HN.out])
        have HX0 : Hid (anewI m.next KS id = m.next) := Lib.hid (by
         have hm : id ∈ KS := by rw [← HK0.out]; exact List.mem_cons_self ..
         unfold anewI
         rw [if_pos hm]
         rcases idxI_cases KS id with ⟨q, hq, e0, e, _⟩ | ⟨h2, _⟩
         ·have := nodup_inj HND.out hq (j := 0) (by omega) (e0.trans (by rw [← getD_lt, ← HK0.out]; rfl))
          rw [e, this]; simp
         ·exact absurd hm h2)
        have hlol : lo.length ≤ 8192 := by omega
        clear HLM HLO hie hy0 hy0p hy0i hat0 hlo
        have HSQ : Hid (∀ w', Blk w' hp 24 #[.int .i64 (m.next + (kl : Int)), .slice (some ⟨gO, 0, none⟩) lo.length cv] → w'.ownsMap Try.prog 3 heldM bm i D → w'.cell? ⟨hp, 0, none⟩ = some (.int .i64 (m.next + (kl : Int))) ∧ w'.cell? ⟨hp, 1, none⟩ = some (.slice (some ⟨gO, 0, none⟩) lo.length cv) ∧ (Instr.lookup 112 (.map (some bm)) (.int .i64 id) false).run Try.prog w' = .ok (.int .i64 m.next) w') := Lib.hid (fun w' h1 h2 => by
         have a := h1.cell 0; have b := h1.cell 1
         simp at a b
         have c := anew_run h2 HMV2.out HND.out (id := id) hid
         rw [HX0.out] at c
         exact ⟨a, b, c⟩)
        go_upto_region 41 with fail
        clear k9
        obtain ⟨u, hu⟩ : ∃ z9 : World, wr.drew = z9 := ⟨_, rfl⟩
        have MM2 : Hid (Mem w u ([.blk w.heap.size 24 #[.int .i64 m.next, .slice A n c], .blk (w.heap.size + 1) 24 #[.int .i64 0, .slice none 0 0], .row 3 1 (.slice (some ⟨gk, 0, none⟩) kl c3) kl (KS.map (Value.int .i64)), .mp 3 bm i D, .blk hp 24 #[.int .i64 (m.next + (kl : Int)), .slice (some ⟨gO, 0, none⟩) lo.length cv]] ++ modelC (.slice (some ⟨gO, 0, none⟩) lo.length cv) lo)) := Lib.hid (by rw [← hu]; exact MM.out.drew)
        clear MM
        have MM := MM2
        clear MM2
        have n1 : (n : Int) < lo.length := by omega
        have n0 : (0 : Int) ≤ n := by omega
        refine wp_region_Y (S := (fun w' : World => w'.cell? ⟨hp, 0, none⟩ = some (.int .i64 (m.next + (kl : Int))) ∧ w'.cell? ⟨hp, 1, none⟩ = some (.slice (some ⟨gO, 0, none⟩) lo.length cv) ∧ (Instr.lookup 112 (.map (some bm)) (.int .i64 id) false).run Try.prog w' = .ok (.int .i64 m.next) w')) 9 (by kernel_rfl) (by rw [hu]; exact HSQ.out _ (MM.out.blk 4 rfl) (MM.out.map 3 rfl)) (fun hHeld => ?_)
        rw [hu] at hHeld ⊢
        clear hu
        refine wpAnyY_take (i := 0) (v := ?_) rfl (by kernel_rfl) (by kernel_rfl) (by kernel_rfl) (by kernel_rfl) (fun _ _ _ h => h) (Or.inl ⟨by rfl, ?_⟩) (by assumption) ?_
        rotate_left 1
        ·(intro w' hSw; obtain ⟨s0, s1, s2⟩ := hSw; go_simp); try with_reducible rfl
        try simp only [Act.put, List.setIfInBounds_toArray, List.set_cons_zero, List.set_cons_succ, Nat.zero_add]
        refine wpAnyY_take (i := 1) (v := ?_) rfl (by kernel_rfl) (by kernel_rfl) (by kernel_rfl) (by kernel_rfl) (fun _ _ _ h => h) (Or.inl ⟨by rfl, ?_⟩) (by assumption) ?_
        rotate_left 1
        ·(intro w' hSw; obtain ⟨s0, s1, s2⟩ := hSw; go_simp); try with_reducible rfl
        try simp only [Act.put, List.setIfInBounds_toArray, List.set_cons_zero, List.set_cons_succ, Nat.zero_add]
        refine wpAnyY_take (i := 2) (v := ?_) rfl (by kernel_rfl) (by kernel_rfl) (by kernel_rfl) (by kernel_rfl) (fun _ _ _ h => h) (Or.inl ⟨by rfl, ?_⟩) (by assumption) ?_
        rotate_left 1
        ·(intro w' hSw; obtain ⟨s0, s1, s2⟩ := hSw; go_simp); try with_reducible rfl
        try simp only [Act.put, List.setIfInBounds_toArray, List.set_cons_zero, List.set_cons_succ, Nat.zero_add]
        refine wpAnyY_take (i := 3) (v := ?_) rfl (by kernel_rfl) (by kernel_rfl) (by kernel_rfl) (by kernel_rfl) (fun _ _ _ h => h) (Or.inl ⟨by rfl, ?_⟩) (by assumption) ?_
        rotate_left 1
        ·(intro w' hSw; obtain ⟨s0, s1, s2⟩ := hSw; go_simp); try with_reducible rfl
        try simp only [Act.put, List.setIfInBounds_toArray, List.set_cons_zero, List.set_cons_succ, Nat.zero_add]
        refine wpAnyY_take (i := 4) (v := ?_) rfl (by kernel_rfl) (by kernel_rfl) (by kernel_rfl) (by kernel_rfl) (fun _ _ _ h => h) (Or.inl ⟨by rfl, ?_⟩) (by assumption) ?_
        rotate_left 1
        ·(intro w' hSw; obtain ⟨s0, s1, s2⟩ := hSw; go_simp); try with_reducible rfl
        try simp only [Act.put, List.setIfInBounds_toArray, List.set_cons_zero, List.set_cons_succ, Nat.zero_add]
        refine wpAnyY_take (i := 5) (v := ?_) rfl (by kernel_rfl) (by kernel_rfl) (by kernel_rfl) (by kernel_rfl) (fun _ _ _ h => h) (Or.inl ⟨by rfl, ?_⟩) (by assumption) ?_
        rotate_left 1
        ·(intro w' hSw; obtain ⟨s0, s1, s2⟩ := hSw; go_simp); try with_reducible rfl
        try simp only [Act.put, List.setIfInBounds_toArray, List.set_cons_zero, List.set_cons_succ, Nat.zero_add]
        refine wpAnyY_one (i := 6) rfl (by kernel_rfl) (fun K hK => ?_)
        go_simp
        have hrow : RowOf 7 ENode u (fun b => b < u.heap.size) (some ⟨gO, 0, none⟩) (lo.map LN.n) := by
         obtain ⟨A', c', e, _, _, h3⟩ := MM.out.ownM.isRow (F := fun b => b < u.heap.size) (fun b _ h => h)
         injection e with e1; subst e1; exact h3
        have HPO := Lib.hid (place_any (some ⟨gO, 0, none⟩) cv (m.next + (kl : Int)) m.next (lo.map LN.n) u (fun b => b < u.heap.size) (fun _ h => h) hrow (by rw [HMP.out]; exact copies_srt (x := x) HCM.out HMR.out (Nat.le_refl _)) ⟨by omega, by omega⟩ (by rw [List.length_map]; omega))
        rw [HA0.out, List.length_map] at HPO
        clear hrow
        refine HPO.out.mono ?_
        rintro _ u7 ⟨rfl, hb⟩
        have MM2 : Hid (Mem w u7 ([.blk w.heap.size 24 #[.int .i64 m.next, .slice A n c], .blk (w.heap.size + 1) 24 #[.int .i64 0, .slice none 0 0], .row 3 1 (.slice (some ⟨gk, 0, none⟩) kl c3) kl (KS.map (Value.int .i64)), .mp 3 bm i D, .blk hp 24 #[.int .i64 (m.next + (kl : Int)), .slice (some ⟨gO, 0, none⟩) lo.length cv]] ++ modelC (.slice (some ⟨gO, 0, none⟩) lo.length cv) lo)) := Lib.hid (MM.out.call hb)
        clear MM HPO hb
        have MM := MM2
        clear MM2
        go_simp
        have hHeld7 := HSQ.out _ (MM.out.blk 4 rfl) (MM.out.map 3 rfl)
        refine hK.out _ _ (fun _ => HSQ.out _ (MM.out.blk 4 rfl) (MM.out.map 3 rfl)) ?_
        clear hK K
        try simp only [Act.put, List.setIfInBounds_toArray, List.set_cons_zero, List.set_cons_succ, Nat.zero_add]
        refine wpAnyY_take0 (i := 7) (v := ?_) rfl (by kernel_rfl) (by kernel_rfl) (by kernel_rfl) (by kernel_rfl) (fun _ _ _ h => h) (Or.inl ⟨by rfl, ?_⟩) ?_
        rotate_left 1
        ·(intro w' _; go_simp); try with_reducible rfl
        try simp only [Act.put, List.setIfInBounds_toArray, List.set_cons_zero, List.set_cons_succ, Nat.zero_add]
        refine wpAnyY_take (i := 8) (v := ?_) rfl (by kernel_rfl) (by kernel_rfl) (by kernel_rfl) (by kernel_rfl) (fun _ _ _ h => h) (Or.inl ⟨by rfl, ?_⟩) (by assumption) ?_
        rotate_left 1
        ·(intro w' hSw; obtain ⟨s0, s1, s2⟩ := hSw; go_simp); try with_reducible rfl
        try simp only [Act.put, List.setIfInBounds_toArray, List.set_cons_zero, List.set_cons_succ, Nat.zero_add]
        refine wpAnyY_one0 (i := 9) rfl (by kernel_rfl) (by kernel_rfl) (fun K hK => ?_)
        have c0 : u7.cell? ⟨gO, n * 7 + 2, none⟩ = some (.int .i64 0) := by rw [own_cell MM.out.ownM.row (n * 7 + 2) (by omega)]; exact HC0.out
        have f0 : u7.frozen? ⟨gO, n * 7 + 2, none⟩ = false := own_frozen MM.out.ownM.row _
        go_simp
        refine hK.out _ _ ?_
        clear c0 f0
        clear hK K
        try simp only [Act.put, List.setIfInBounds_toArray, List.set_cons_zero, List.set_cons_succ, Nat.zero_add]
        refine wpAnyY_done (by kernel_rfl) ?_ _
        clear hHeld hHeld7
        obtain ⟨u8, hu⟩ : ∃ z9 : World, u7.setCell ⟨gO, n * 7 + 2, none⟩ (.int .i64 0) = z9 := ⟨_, rfl⟩
        have MM2 : Hid (Mem w u8 ([.blk w.heap.size 24 #[.int .i64 m.next, .slice A n c], .blk (w.heap.size + 1) 24 #[.int .i64 0, .slice none 0 0], .row 3 1 (.slice (some ⟨gk, 0, none⟩) kl c3) kl (KS.map (Value.int .i64)), .mp 3 bm i D, .blk hp 24 #[.int .i64 (m.next + (kl : Int)), .slice (some ⟨gO, 0, none⟩) lo.length cv]] ++ modelC (.slice (some ⟨gO, 0, none⟩) lo.length cv) lo)) := Lib.hid (by rw [← hu]; exact (by have h := MM.out.setR 5 rfl (j := n * 7 + 2) (by omega) (.int .i64 0); rw [set_same HC0.out] at h; exact h))
        clear MM
        have MM := MM2
        clear MM2
        rw [hu]
        clear hu
        obtain ⟨z, hz, hzi⟩ := copies_first (m := m) (x := x)
        have HHA := Lib.hid (hang_any (m.next + (kl : Int)) (.slice (some ⟨gO, 0, none⟩) lo.length cv : Value) lo u8 w.heap.size (fun b => some b ∈ ((.slice (some ⟨gO, 0, none⟩) lo.length cv : Value).ownBlock :: allBlocks lo)) (fun _ h => h) MM.out.ownM MM.out.size (by rw [HMP.out]; exact copies_srt (x := x) HCM.out HMR.out (Nat.le_refl _)) (by rw [HMP.out]; exact copies_kidsR HCM.out HX.out.1 HMR.out HRK.out (Nat.le_refl _)) (by omega) (by rw [HMP.out]; exact copies_closed HCM.out HX.out.1) z (by rw [HMP.out]; exact hz) (by rw [hzi, HMP.out]; exact copies_nokid HCM.out HX.out.1) p role a ha (iOf m p role a) (by rw [hzi, HMP.out]; exact copies_place (x := x) HCM.out HMR.out HPY.out HGE.out _))
        rw [hzi, HMP.out] at HHA
        clear hz hzi
        have hlk := (HSQ.out _ (MM.out.blk 4 rfl) (MM.out.map 3 rfl)).2.2
        have pc0 := (MM.out.blk 4 rfl).cell 0
        have pc1 := (MM.out.blk 4 rfl).cell 1
        have plt := (MM.out.blk 4 rfl).lt
        simp at pc0 pc1
        go_wp2_with fail
        refine HHA.out.mono ?_
        rintro _ uz ⟨rfl, l2, hown, hlm, hk⟩
        clear hlk
        clear pc0 pc1 plt
        have MM2 : Hid (Mem w uz ([.blk w.heap.size 24 #[.int .i64 m.next, .slice A n c], .blk (w.heap.size + 1) 24 #[.int .i64 0, .slice none 0 0], .row 3 1 (.slice (some ⟨gk, 0, none⟩) kl c3) kl (KS.map (Value.int .i64)), .mp 3 bm i D, .blk hp 24 #[.int .i64 (m.next + (kl : Int)), .slice (some ⟨gO, 0, none⟩) lo.length cv]])) := Lib.hid (MM.out.besideM hk)
        clear MM
        have MM := MM2
        clear MM2
        have HFIN : Hid (l2.map LN.n = LL) := Lib.hid (by
         rw [hlm, ← HLL.out]
         unfold copyL
         rw [HX.out.2])
        have HO3 := Lib.hid hown
        clear hown hlm hk HHA
        go_upto_region 43 with fail
        obtain ⟨ul, hu⟩ : ∃ z9 : World, uz.drew = z9 := ⟨_, rfl⟩
        have MM2 : Hid (Mem w ul ([.blk w.heap.size 24 #[.int .i64 m.next, .slice A n c], .blk (w.heap.size + 1) 24 #[.int .i64 0, .slice none 0 0], .row 3 1 (.slice (some ⟨gk, 0, none⟩) kl c3) kl (KS.map (Value.int .i64)), .mp 3 bm i D, .blk hp 24 #[.int .i64 (m.next + (kl : Int)), .slice (some ⟨gO, 0, none⟩) lo.length cv]])) := Lib.hid (by rw [← hu]; exact MM.out.drew)
        clear MM
        have MM := MM2
        clear MM2
        have HO4 : Hid (OwnM ul w.heap.size (.slice (some ⟨gO, 0, none⟩) lo.length cv) l2) := Lib.hid (by rw [← hu]; exact HO3.out.below (Below.refl _ _).drew)
        clear HO3
        have MM5 : Hid (Mem w ((ul.setCell ⟨w.heap.size + 1, 0, none⟩ (.int .i64 (m.next + (kl : Int)))).setCell ⟨w.heap.size + 1, 1, none⟩ (.slice (some ⟨gO, 0, none⟩) lo.length cv)) ([.blk w.heap.size 24 #[.int .i64 m.next, .slice A n c], .blk (w.heap.size + 1) 24 #[.int .i64 (m.next + (kl : Int)), .slice (some ⟨gO, 0, none⟩) lo.length cv], .row 3 1 (.slice (some ⟨gk, 0, none⟩) kl c3) kl (KS.map (Value.int .i64)), .mp 3 bm i D, .blk hp 24 #[.int .i64 (m.next + (kl : Int)), .slice (some ⟨gO, 0, none⟩) lo.length cv]])) := Lib.hid ((MM.out.set_ 1 rfl 0 _).set_ 1 rfl 1 _)
        have HSF2 := Lib.hid (HSQ.out _ (MM5.out.blk 4 rfl) (MM5.out.map 3 rfl))
        have t0 := (MM.out.blk 1 rfl).frozen 0; have t1 := (MM.out.blk 1 rfl).frozen 1
        have r0 := (MM.out.blk 1 rfl).cell 0; have r1 := (MM.out.blk 1 rfl).cell 1
        have hrlt := (MM.out.blk 1 rfl).lt
        simp at r0 r1
        refine wp_region_Y (S := (fun w' : World => w'.cell? ⟨hp, 0, none⟩ = some (.int .i64 (m.next + (kl : Int))) ∧ w'.cell? ⟨hp, 1, none⟩ = some (.slice (some ⟨gO, 0, none⟩) lo.length cv) ∧ (Instr.lookup 112 (.map (some bm)) (.int .i64 id) false).run Try.prog w' = .ok (.int .i64 m.next) w')) 6 (by kernel_rfl) (by rw [hu]; exact HSQ.out _ (MM.out.blk 4 rfl) (MM.out.map 3 rfl)) (fun hHeld => ?_)
        rw [hu] at hHeld ⊢
        clear hu
        refine wpAnyY_take (i := 0) (v := ?_) rfl (by kernel_rfl) (by kernel_rfl) (by kernel_rfl) (by kernel_rfl) (fun _ _ _ h => h) (Or.inl ⟨by rfl, ?_⟩) (by assumption) ?_
        rotate_left 1
        ·(intro w' hSw; obtain ⟨s0, s1, s2⟩ := hSw; go_simp); try with_reducible rfl
        try simp only [Act.put, List.setIfInBounds_toArray, List.set_cons_zero, List.set_cons_succ, Nat.zero_add]
        refine wpAnyY_take (i := 1) (v := ?_) rfl (by kernel_rfl) (by kernel_rfl) (by kernel_rfl) (by kernel_rfl) (fun _ _ _ h => h) (Or.inl ⟨by rfl, ?_⟩) (by assumption) ?_
        rotate_left 1
        ·(intro w' hSw; obtain ⟨s0, s1, s2⟩ := hSw; go_simp); try with_reducible rfl
        try simp only [Act.put, List.setIfInBounds_toArray, List.set_cons_zero, List.set_cons_succ, Nat.zero_add]
        refine wpAnyY_take (i := 2) (v := ?_) rfl (by kernel_rfl) (by kernel_rfl) (by kernel_rfl) (by kernel_rfl) (fun _ _ _ h => h) (Or.inl ⟨by rfl, ?_⟩) (by assumption) ?_
        rotate_left 1
        ·(intro w' hSw; obtain ⟨s0, s1, s2⟩ := hSw; go_simp); try with_reducible rfl
        try simp only [Act.put, List.setIfInBounds_toArray, List.set_cons_zero, List.set_cons_succ, Nat.zero_add]
        refine wpAnyY_take (i := 3) (v := ?_) rfl (by kernel_rfl) (by kernel_rfl) (by kernel_rfl) (by kernel_rfl) (fun _ _ _ h => h) (Or.inl ⟨by rfl, ?_⟩) (by assumption) ?_
        rotate_left 1
        ·(intro w' hSw; obtain ⟨s0, s1, s2⟩ := hSw; go_simp); try with_reducible rfl
        try simp only [Act.put, List.setIfInBounds_toArray, List.set_cons_zero, List.set_cons_succ, Nat.zero_add]
        refine wpAnyY_one (i := 4) rfl (by kernel_rfl) (fun K hK => ?_)
        go_simp
        refine hK.out _ _ (fun _ => HSF2.out) ?_
        clear hK K
        try simp only [Act.put, List.setIfInBounds_toArray, List.set_cons_zero, List.set_cons_succ, Nat.zero_add]
        refine wpAnyY_one (i := 5) rfl (by kernel_rfl) (fun K hK => ?_)
        go_simp
        refine hK.out _ _ (fun _ => HSF2.out) ?_
        clear hK K
        try simp only [Act.put, List.setIfInBounds_toArray, List.set_cons_zero, List.set_cons_succ, Nat.zero_add]
        refine wpAnyY_one0 (i := 6) rfl (by kernel_rfl) (by kernel_rfl) (fun K hK => ?_)
        go_simp
        refine hK.out _ _ ?_
        clear hK K
        try simp only [Act.put, List.setIfInBounds_toArray, List.set_cons_zero, List.set_cons_succ, Nat.zero_add]
        refine wpAnyY_done (by kernel_rfl) ?_ _
        clear hHeld
        go_wp2_with fail
        have f0 := (MM5.out.blk 1 rfl).cell 0; have f1 := (MM5.out.blk 1 rfl).cell 1
        simp at f0 f1
        refine bodyPost_ret (v := .tuple #[.agg #[.int .i64 (m.next + (kl : Int)), .slice (some ⟨gO, 0, none⟩) lo.length cv], .int .i64 m.next, .int .i64 0]) (by simp [results, Try.results49, go_sem, f0, f1]) rfl ⟨⟨_, rfl, Or.inr ⟨E.out, (.slice (some ⟨gO, 0, none⟩) lo.length cv), _, by rw [HKS.out, HKL.out], ?_, HFIN.out⟩⟩, MM5.out.below⟩
        refine HO4.out.aside (w' := ((ul.setCell ⟨w.heap.size + 1, 0, none⟩ (.int .i64 (m.next + (kl : Int)))).setCell ⟨w.heap.size + 1, 1, none⟩ (.slice (some ⟨gO, 0, none⟩) lo.length cv))) (fun b hb => ?_)
        have hne := HO4.out.ne_blk (MM.out.blk 1 rfl) b hb
        exact (Below.heap_setCell _ _ _ _ hne).trans (Below.heap_setCell _ _ _ _ hne)
end Go.Proofs.Ytmafhaadcjgcbaa
end
