import Derived.Test.YtmafhaadcjgcbaaEditP
import Derived.Test.YtmafhaadcjgcbaaHTouch
import Derived.Test.YtmafhaadcjgcbaaAPlace
import Derived.Test.YtmafhaadcjgcbaaCheckCp
import Derived.Test.YtmafhaadcjgcbaaAddP
import Derived.Test.YtmafhaadcjgcbaaHang
import Derived.Test.YtmafhaadcjgcbaaTwinA
import Derived.Test.YtmafhaadcjgcbaaRemoveP
import Derived.Test.YtmafhaadcjgcbaaMove
import Derived.Test.YtmafhaadcjgcbaaRegZ
import Derived.Test.YtmafhaadcjgcbaaAOrder
import Derived.Test.YtmafhaadcjgcbaaMemN
import Derived.Test.YtmafhaadcjgcbaaCopyA
import Derived.Test.YtmafhaadcjgcbaaSetPA
import Derived.Test.YtmafhaadcjgcbaaATellsA
import Derived.Lib.QuietBelow
import Derived.Deep.CutBlock
import Derived.Test.YtmafhaadcjgcbaaAOwn
import Derived.Test.YtmafhaadcjgcbaaASame
import Derived.Test.YtmafhaadcjgcbaaADataA
import Derived.Test.YtmafhaadcjgcbaaRegX
set_option linter.unusedSimpArgs false
set_option linter.unusedVariables false
section
/- what an edit answers, in plain Lean: the model is right, its texts are bounded, and what is touched is told -/
namespace Go.Proofs.Ytmafhaadcjgcbaa
open Go Go.RowKit

section
variable {m : AModel} {nm val role concept : ByteArray} {id parent a : Int} {j : Nat}
open Classical in
theorem setE_zero {lg no : Prop} (h : setE m nm lg no = 0) : CheckM m ∧ wordA nm = true ∧ ¬ lg := by
  unfold setE at h
  by_cases hc : CheckM m
  · rw [if_neg (fun e => e hc)] at h
    by_cases hw : wordA nm = false
    · rw [if_pos hw] at h; cases h
    · rw [if_neg hw] at h
      by_cases hl : lg
      · rw [if_pos hl] at h; cases h
      · exact ⟨hc, by simpa using hw, hl⟩
  · rw [if_pos hc] at h; cases h
open Classical in
theorem addE_zero (h : addE m parent role a concept = 0) : CheckM m ∧ wordA concept = true ∧ (parent ≠ 0 → wordA role = true) := by
  unfold addE at h
  by_cases hc : CheckM m
  · rw [if_neg (fun e => e hc)] at h
    by_cases hw : wordA concept = false ∨ (parent ≠ 0 ∧ wordA role = false)
    · rw [if_pos hw] at h; cases h
    · refine ⟨hc, ?_, fun hp => ?_⟩
      · cases e : wordA concept
        · exact absurd (.inl e) hw
        · rfl
      · cases e : wordA role
        · exact absurd (.inr ⟨hp, e⟩) hw
        · rfl
  · rw [if_pos hc] at h; cases h
end
end Go.Proofs.Ytmafhaadcjgcbaa
end
section
/- a number's rest -/
namespace Go.Proofs.Ytmafhaadcjgcbaa
open Go Go.RowKit

/-- a number's rest -/
def restN (x : Int) (n : Nat) : Nat := (x % 18446744073709551616).toNat % n
theorem restN_lt (x : Int) {n : Nat} (h : 1 ≤ n) : restN x n < n := Nat.mod_lt _ (by omega)
set_option maxRecDepth 100000 in
set_option maxHeartbeats 2000000 in
theorem rest_any (x : Int) (n : Nat) (hx : InR x) (hn : 1 ≤ n) (hn2 : n ≤ 9223372036854775807) (w : World) :
    Calls Try.prog 58 #[.int .i64 x, .int .i64 n] w fun e w' => e = .returned (.int .i64 (restN x n)) ∧ Below w.heap.size w w' := by
  have h0 : (n : Int) ≠ 0 := by omega
  go_enter Try.func58, Try.ntmps58
  go_wp2
  go_ret
  have h1 : wrap64 ((IntKind.u64.wrap x).tmod (n : Int)) = ((restN x n : Nat) : Int) := by
    have e1 : IntKind.u64.wrap x = x % 18446744073709551616 := rfl
    have e2 : ((x % 18446744073709551616).toNat : Int) = x % 18446744073709551616 := Int.toNat_of_nonneg (Int.emod_nonneg _ (by decide))
    have h3 := restN_lt x hn
    rw [e1, ← e2, ← Int.ofNat_tmod]
    show wrap64 ((restN x n : Nat) : Int) = _
    exact IntWalk.wrap64_in _ ⟨by omega, by omega⟩
  exact ⟨by simp [h1], Below.refl _ _⟩
end Go.Proofs.Ytmafhaadcjgcbaa
end
section
/- what an act makes of a model, in plain Lean: it stays right, and no list in it grows by more than one -/
namespace Go.Proofs.Ytmafhaadcjgcbaa
open Go Go.RowKit

/-! ### A right model's nodes are bounded -/
theorem wordA_size {s : ByteArray} (h : wordA s = true) : s.size ≤ 33 := by
  have e : s.size = s.data.toList.length := rfl
  unfold wordA strip at h
  rw [e]
  generalize s.data.toList = l at h
  have key : ∀ r : List UInt8, rightB r = true → r.length ≤ 32 := fun r hr => by
    cases r with
    | nil => simp
    | cons c r =>
      simp only [rightB, Bool.and_eq_true, decide_eq_true_eq] at hr
      simp only [List.length_cons]; omega
  split at h
  · have := key _ h
    rw [List.length_tail] at this
    omega
  · have := key _ h
    omega
theorem node_ok {m : AModel} (h : CheckM m) : ∀ x ∈ m.nodes, NodeOK x := fun x hx => by
  obtain ⟨a1, a2, a3, a4, a5, a6⟩ := h.2.1 x hx
  have hlt : ∀ y ∈ m.nodes, 1 ≤ y.id ∧ y.id < m.next := fun y hy => by
    obtain ⟨i, hi, rfl⟩ := List.getElem_of_mem hy
    exact ⟨(h.1.2 i hi).1, (h.1.2 i hi).2.1⟩
  have hn := h.1.1.2.1
  refine ⟨⟨by have := wordA_size a1; omega, ?_, fun p hp => ?_, fun r hr => ?_⟩, ?_, fun k hk => ?_⟩
  · by_cases hr : x.role.size = 0
    · omega
    · have := wordA_size (a3 hr); omega
  · have := (propsOK_iff.1 a5).1 p hp
    have h2 := wordA_size this.1
    exact ⟨by omega, by omega⟩
  · have := (refsOK_iff.1 a6).1 r hr
    have h2 := wordA_size this.1
    omega
  · rcases check_parent h hx with e | ⟨y, hy, e⟩
    · rw [e]; unfold InR; omega
    · have := hlt y hy
      rw [e]; unfold InR; omega
  · obtain ⟨w, hw, e, _⟩ := h.2.2.1 x hx k hk
    have := hlt w hw
    rw [← e]; unfold InR; omega
/-- no node has more than k properties, or references -/
def Few (k : Nat) (m : AModel) : Prop := ∀ x ∈ m.nodes, x.props.length ≤ k ∧ x.refs.length ≤ k
theorem Few.mono {k j : Nat} {m : AModel} (h : Few k m) (hk : k ≤ j) : Few j m := fun x hx => ⟨Nat.le_trans (h x hx).1 hk, Nat.le_trans (h x hx).2 hk⟩
theorem lens_few {k : Nat} {m : AModel} (h : CheckM m) (hf : Few k m) (hk : k ≤ 100000) : ∀ x ∈ m.nodes, LensOK x := fun x hx => by
  have h1 := hf x hx
  have h2 := check_kids4 h x hx
  unfold LensOK
  omega
theorem setK_len {α : Type} {f : α → ByteArray} {l : List α} {t : ByteArray} {y : α} : (setK f l t y).length ≤ l.length + 1 := by
  unfold setK keepN
  rw [List.length_append, List.length_cons]
  have h1 := List.length_filter_le (fun x => !eqT (f x) t) (l.drop (cutK f l t))
  have h2 := congrArg List.length (List.take_append_drop (cutK f l t) l)
  rw [List.length_append] at h2
  omega

/-! ### Acts -/
structure QAct where
  kind : Int
  a : Int
  b : Int
  at' : Int
  word : ByteArray
  text : ByteArray
noncomputable def pickI (m : AModel) (x : Int) : Int := (orderL m).getD (restN x ((orderL m).length + 1)) 0
noncomputable def addM (m : AModel) (p : Int) (role : ByteArray) (a : Int) (concept : ByteArray) : AModel :=
  if p = 0 then addRoot m concept else addKid m (atI m.nodes p).toNat (nodeOf m p) ((spotI (nodeOf m p).kids (inL m (nodeOf m p) role) a).getD 0).toNat concept role
def sN : ByteArray := ⟨#[78, 111, 100, 101]⟩
noncomputable def actE (m : AModel) (k : Nat) (x y : Int) (role : ByteArray) (at' : Int) (word text : ByteArray) : Int :=
  if k < 2 then addE m y role at' sN else if k = 2 then moveE m x y role at' else if k = 3 then copyE m x y role at' else if k = 4 then removeE m x
  else if k = 5 then setE m word (4096 < text.size) (atI m.nodes x < 0) else setE m word False (atI m.nodes x < 0 ∨ atI m.nodes y < 0)
noncomputable def actM (m : AModel) (k : Nat) (x y : Int) (role : ByteArray) (at' : Int) (word text : ByteArray) : AModel :=
  if k < 2 then addM m y role at' sN else if k = 2 then ⟨m.next, moveL m x y role at'⟩ else if k = 3 then ⟨m.next + (ksL m x).length, copyL m x y role at'⟩ else if k = 4 then ⟨m.next, removeL m x⟩
  else if k = 5 then ⟨m.next, m.nodes.set (atI m.nodes x).toNat (putN word text (nodeOf m x))⟩ else ⟨m.next, m.nodes.set (atI m.nodes x).toNat (aimN word y (nodeOf m x))⟩
noncomputable def roleOf (m : AModel) (a : QAct) : ByteArray := if pickI m a.b = 0 then ⟨#[]⟩ else a.word
noncomputable def placeOf (m : AModel) (a : QAct) : Int := if pickI m a.b = 0 then 0 else (restN a.at' ((kidR m a.word (pickI m a.b)).length + 1) : Nat)
noncomputable def doneE (m : AModel) (a : QAct) : Int := actE m (restN a.kind 7) (pickI m a.a) (pickI m a.b) (roleOf m a) (placeOf m a) a.word a.text
noncomputable def doneM (m : AModel) (a : QAct) : AModel := if doneE m a = 0 then actM m (restN a.kind 7) (pickI m a.a) (pickI m a.b) (roleOf m a) (placeOf m a) a.word a.text else m

section
variable {m : AModel} {k : Nat} {x y at' : Int} {role word text concept : ByteArray}
open Classical in
theorem setE_node0 {lg no : Prop} (h : setE m word lg no = 0) : ¬ no := by
  unfold setE at h
  by_cases hc : CheckM m
  · rw [if_neg (fun e => e hc)] at h
    by_cases hw : wordA word = false
    · rw [if_pos hw] at h; cases h
    · rw [if_neg hw] at h
      by_cases hl : lg
      · rw [if_pos hl] at h; cases h
      · rw [if_neg hl] at h
        by_cases hn : no
        · rw [if_pos hn] at h; cases h
        · exact hn
  · rw [if_pos hc] at h; cases h
/-- a number that a node has: its place -/
theorem at_there (h : CheckM m) (hn : ¬ atI m.nodes x < 0) : ∃ j, ∃ hj : j < m.nodes.length, m.nodes[j].id = x ∧ (atI m.nodes x).toNat = j ∧ nodeOf m x = m.nodes[j] := by
  rcases atI_cases m.nodes x with ⟨j, hj, e1, e2⟩ | ⟨_, e⟩
  · exact ⟨j, hj, e1, by rw [e2]; rfl, by rw [← e1]; exact h.tree.nodeOf (List.getElem_mem hj)⟩
  · exact absurd (by rw [e]; omega) hn
open Classical in
/-- what a sum that is answered 0 tells -/
theorem add_ok0 (h : addE m y role at' concept = 0) : CheckM m ∧ wordA concept = true ∧ m.nodes.length ≤ 4095 ∧ m.next ≤ 1048576 ∧
    ((y = 0 ∧ addM m y role at' concept = addRoot m concept) ∨ (y ≠ 0 ∧ wordA role = true ∧ ∃ j, ∃ hj : j < m.nodes.length, m.nodes[j].id = y ∧ (∃ d, Dep m d y ∧ d ≤ 63) ∧ ∃ i : Nat, spotI m.nodes[j].kids (inL m m.nodes[j] role) at' = some (i : Int) ∧ addM m y role at' concept = addKid m j m.nodes[j] i concept role)) := by
  obtain ⟨h1, h2, h3⟩ := addE_zero h
  have hle := h1.1.1.2.2
  by_cases hp : y = 0
  · subst hp
    have h0 := h
    rw [addE_root h1 h2] at h
    have hr : rootE role at' = 0 := by
      by_cases e : rootE role at' = 0
      · exact e
      · rw [if_pos e] at h; exact h
    rw [if_neg (fun e => e hr)] at h
    have hn : ¬ (m.nodes.length = 4096 ∨ 1048576 < m.next) := fun e => by rw [if_pos e] at h; cases h
    exact ⟨h1, h2, by omega, by omega, .inl ⟨rfl, if_pos rfl⟩⟩
  · have hw := h3 hp
    have hat : ¬ (y ≠ 0 ∧ atI m.nodes y < 0) := fun e => by
      unfold addE at h
      rw [if_neg (fun e => e h1), if_neg (fun e9 => by rcases e9 with e9 | e9; rw [h2] at e9; cases e9; rw [hw] at e9; cases e9.2), if_pos e] at h
      cases h
    obtain ⟨j, hj, hid, hat2, hno⟩ := at_there (x := y) h1 (fun e => hat ⟨hp, e⟩)
    obtain ⟨d, hd64, hd⟩ := Dep.of_up 64 _ (List.getElem_mem hj) (h1.2.2.2.2 _ (List.getElem_mem hj))
    subst hid
    rw [addE_kid h1 h2 (List.getElem_mem hj) hw hd] at h
    obtain ⟨sp, hsp⟩ : ∃ s, spotI m.nodes[j].kids (inL m m.nodes[j] role) at' = s := ⟨_, rfl⟩
    rw [hsp] at h
    have hr : kidE sp d 1 = 0 := by
      by_cases e : kidE sp d 1 = 0
      · exact e
      · rw [if_pos e] at h; exact h
    rw [if_neg (fun e => e hr)] at h
    have hn : ¬ (m.nodes.length = 4096 ∨ 1048576 < m.next) := fun e => by rw [if_pos e] at h; cases h
    have hd2 : sp.isSome = true ∧ d ≤ 63 := by
      unfold kidE at hr
      split at hr
      · split at hr
        · cases hr
        · exact ⟨‹_›, by omega⟩
      · cases hr
    obtain ⟨s, rfl⟩ := Option.isSome_iff_exists.1 hd2.1
    have hs0 : 0 ≤ s := (spotI_le (fun k hk => (List.mem_filter.1 hk).1) hsp).1
    refine ⟨h1, h2, by omega, by omega, .inr ⟨hp, hw, j, hj, rfl, ⟨d, hd, hd2.2⟩, s.toNat, by rw [hsp]; congr 1; omega, ?_⟩⟩
    unfold addM
    rw [if_neg hp, hat2, hno, hsp]
    rfl
theorem add_step (h : addE m y role at' concept = 0) (hf : Few k m) : CheckM (addM m y role at' concept) ∧ Few (k + 1) (addM m y role at' concept) ∧ m.next ≤ (addM m y role at' concept).next := by
  obtain ⟨h1, h2, h3, h4, h5⟩ := add_ok0 h
  have new : ∀ p r, (newN m concept p r).props.length ≤ k + 1 ∧ (newN m concept p r).refs.length ≤ k + 1 := fun p r => ⟨Nat.zero_le _, Nat.zero_le _⟩
  rcases h5 with ⟨_, e⟩ | ⟨hp, hw, j, hj, rfl, ⟨d, hd, hd6⟩, i, _, e⟩
  · rw [e]
    refine ⟨addRoot_check h1 h2 h3 h4, fun z hz => ?_, by show m.next ≤ m.next + 1; omega⟩
    rcases List.mem_append.1 (show z ∈ m.nodes ++ [newN m concept 0 ⟨#[]⟩] from hz) with hz | hz
    · exact hf.mono (Nat.le_succ k) z hz
    · rw [List.mem_singleton.1 hz]; exact new _ _
  · rw [e]
    refine ⟨addKid_check h1 hj h2 hw h3 h4 hd hd6 i, fun z hz => ?_, by show m.next ≤ m.next + 1; omega⟩
    rcases List.mem_append.1 (show z ∈ m.nodes.set j { m.nodes[j] with kids := insAt m.nodes[j].kids i m.next } ++ [newN m concept m.nodes[j].id role] from hz) with hz | hz
    · rcases List.mem_or_eq_of_mem_set hz with e | e
      · exact hf.mono (Nat.le_succ k) z e
      · subst e; exact ⟨(hf.mono (Nat.le_succ k) _ (List.getElem_mem hj)).1, (hf.mono (Nat.le_succ k) _ (List.getElem_mem hj)).2⟩
    · rw [List.mem_singleton.1 hz]; exact new _ _
theorem mu_few {z : ANode} (hf : Few k m) : Few k (mu m z) := fun y hy => by
  obtain ⟨w, hw, _, _, _, _, e5, e6, _⟩ := mu_mem hy
  rw [e5, e6]; exact hf w hw
theorem place_few {ns : List ANode} {nx id p : Int} {q : Nat} (hf : ∀ z ∈ ns, z.props.length ≤ k ∧ z.refs.length ≤ k) : Few k ⟨nx, placeN ns id p role q⟩ := fun y hy => by
  obtain ⟨z, hz, rfl⟩ := List.mem_map.1 (show y ∈ placeN ns id p role q from hy)
  split
  · exact hf z hz
  · split <;> exact hf z hz
theorem move_step (h : moveE m x y role at' = 0) (hf : Few k m) : CheckM ⟨m.next, moveL m x y role at'⟩ ∧ Few (k + 1) ⟨m.next, moveL m x y role at'⟩ :=
  ⟨move_check h, Few.mono (place_few (mu_few hf)) (Nat.le_succ k)⟩
theorem remove_step (h : removeE m x = 0) (hf : Few k m) : CheckM ⟨m.next, removeL m x⟩ ∧ Few (k + 1) ⟨m.next, removeL m x⟩ := by
  refine ⟨remove_check h, fun z hz => ?_⟩
  have hz : z ∈ removeL m x := hz
  unfold removeL at hz
  exact (mu_few hf).mono (Nat.le_succ k) z (List.mem_filter.1 hz).1
theorem copy_step (h : copyE m x y role at' = 0) (hf : Few k m) : CheckM ⟨m.next + (ksL m x).length, copyL m x y role at'⟩ ∧ Few (k + 1) ⟨m.next + (ksL m x).length, copyL m x y role at'⟩ := by
  refine ⟨copy_check h, Few.mono (place_few fun z hz => ?_) (Nat.le_succ k)⟩
  obtain ⟨hc, _, ⟨u, hu, rfl, _⟩, _⟩ := copyE_zero h
  rcases List.mem_append.1 hz with hz | hz
  · exact hf z hz
  · obtain ⟨i, hi, w, hw, _, rfl⟩ := copy_from hc hu hz
    have := hf w hw
    exact ⟨this.1, by show (w.refs.map _).length ≤ k; rw [List.length_map]; exact this.2⟩
theorem put_step (h : setE m word (4096 < text.size) (atI m.nodes x < 0) = 0) (hf : Few k m) : CheckM ⟨m.next, m.nodes.set (atI m.nodes x).toNat (putN word text (nodeOf m x))⟩ ∧ Few (k + 1) ⟨m.next, m.nodes.set (atI m.nodes x).toNat (putN word text (nodeOf m x))⟩ := by
  obtain ⟨h1, h2, h3⟩ := setE_zero h
  obtain ⟨j, hj, _, e2, e3⟩ := at_there h1 (setE_node0 h)
  rw [e2, e3]
  refine ⟨put_check h1 hj h2 (by omega), fun z hz => ?_⟩
  rcases List.mem_or_eq_of_mem_set (show z ∈ m.nodes.set j _ from hz) with e | e
  · exact hf.mono (Nat.le_succ k) z e
  · subst e
    have h4 := hf _ (List.getElem_mem hj)
    have h5 := setK_len (f := AProp.name) (l := m.nodes[j].props) (t := word) (y := ⟨word, text⟩)
    exact ⟨by show (setK AProp.name m.nodes[j].props word ⟨word, text⟩).length ≤ k + 1; omega, by show m.nodes[j].refs.length ≤ k + 1; omega⟩
theorem aim_step (h : setE m word False (atI m.nodes x < 0 ∨ atI m.nodes y < 0) = 0) (hf : Few k m) : CheckM ⟨m.next, m.nodes.set (atI m.nodes x).toNat (aimN word y (nodeOf m x))⟩ ∧ Few (k + 1) ⟨m.next, m.nodes.set (atI m.nodes x).toNat (aimN word y (nodeOf m x))⟩ := by
  obtain ⟨h1, h2, h3⟩ := setE_zero h
  obtain ⟨j, hj, _, e2, e3⟩ := at_there (x := x) h1 (fun e => setE_node0 h (.inl e))
  obtain ⟨j2, hj2, e4, _⟩ := at_there (x := y) h1 (fun e => setE_node0 h (.inr e))
  rw [e2, e3]
  refine ⟨aim_check h1 hj h2 ⟨_, List.getElem_mem hj2, e4⟩, fun z hz => ?_⟩
  rcases List.mem_or_eq_of_mem_set (show z ∈ m.nodes.set j _ from hz) with e | e
  · exact hf.mono (Nat.le_succ k) z e
  · subst e
    have h4 := hf _ (List.getElem_mem hj)
    have h5 := setK_len (f := ARef.role) (l := m.nodes[j].refs) (t := word) (y := ⟨word, y⟩)
    exact ⟨by show m.nodes[j].props.length ≤ k + 1; omega, by show (setK ARef.role m.nodes[j].refs word ⟨word, y⟩).length ≤ k + 1; omega⟩
theorem act_step {n : Nat} (h : actE m n x y role at' word text = 0) (hf : Few k m) : CheckM (actM m n x y role at' word text) ∧ Few (k + 1) (actM m n x y role at' word text) ∧ m.next ≤ (actM m n x y role at' word text).next := by
  unfold actE at h
  unfold actM
  by_cases h0 : n < 2
  · rw [if_pos h0] at h ⊢; exact add_step h hf
  · rw [if_neg h0] at h ⊢
    by_cases h1 : n = 2
    · rw [if_pos h1] at h ⊢; exact ⟨(move_step h hf).1, (move_step h hf).2, Int.le_refl _⟩
    · rw [if_neg h1] at h ⊢
      by_cases h2 : n = 3
      · rw [if_pos h2] at h ⊢; exact ⟨(copy_step h hf).1, (copy_step h hf).2, by show m.next ≤ m.next + (ksL m x).length; omega⟩
      · rw [if_neg h2] at h ⊢
        by_cases h3 : n = 4
        · rw [if_pos h3] at h ⊢; exact ⟨(remove_step h hf).1, (remove_step h hf).2, Int.le_refl _⟩
        · rw [if_neg h3] at h ⊢
          by_cases h4 : n = 5
          · rw [if_pos h4] at h ⊢; exact ⟨(put_step h hf).1, (put_step h hf).2, Int.le_refl _⟩
          · rw [if_neg h4] at h ⊢; exact ⟨(aim_step h hf).1, (aim_step h hf).2, Int.le_refl _⟩
theorem done_step (a : QAct) (hc : CheckM m) (hf : Few k m) : CheckM (doneM m a) ∧ Few (k + 1) (doneM m a) ∧ m.next ≤ (doneM m a).next := by
  unfold doneM
  split
  · exact act_step ‹_› hf
  · exact ⟨hc, hf.mono (Nat.le_succ k), Int.le_refl _⟩
end
end Go.Proofs.Ytmafhaadcjgcbaa
end
section
namespace Go.Proofs.Ytmafhaadcjgcbaa
open Go Go.RowKit

set_option maxRecDepth 100000 in
set_option maxHeartbeats 4000000 in
theorem addA_any (A : Option Addr) (c : Nat) (m : AModel) (w : World) (F : Nat → Prop) (hF : ∀ b, F b → b < w.heap.size) (h : RowOf 7 ENode w F A m.nodes) (hz : ∀ x ∈ m.nodes, NodeOK x) (hz' : ∀ x ∈ m.nodes, LensOK x) (hl : m.nodes.length ≤ 9223372036854775807) (parent : Int) (hpr : InR parent) (role : ByteArray) (hrs : role.size ≤ 9223372036854775807) (a : Int) (ha : InR a) (concept : ByteArray) (hcs : concept.size ≤ 9223372036854775807) :
    Calls Try.prog 37 #[.agg #[.int .i64 m.next, .slice A m.nodes.length c], .int .i64 parent, .string role, .int .i64 a, .string concept] w fun e w' => (∃ v, e = .returned v ∧ AddAs w' w.heap.size m parent role a concept v) ∧ Below w.heap.size w w' := by
  have HBA := Lib.hid (((Below.refl w.heap.size w).alloc (Nat.le_refl _) (.cells #[.int .i64 m.next, .slice A m.nodes.length c] 24)).alloc (by simp) (.cells #[.int .i64 0, .slice none 0 0] 24))
  have HC := Lib.hid (check_any A c m _ F (fun b hb => Nat.lt_of_lt_of_le (hF b hb) HBA.out.size) (h.keep ENode.stays (Keep.below HBA.out hF) (fun _ h => h)) hz hl)
  have HM0 := Lib.hid ((Blk.new w 24 #[.int .i64 m.next, .slice A m.nodes.length c]).alloc (.cells #[.int .i64 0, .slice none 0 0] 24))
  have HR0 := Lib.hid (Blk.new' (w := w.alloc (.cells #[.int .i64 m.next, .slice A m.nodes.length c] 24)) (g := w.heap.size + 1) (t := 24) (cs := #[.int .i64 0, .slice none 0 0]) (by simp))
  have HH := Lib.hid h; have HZ := Lib.hid hz; have HZ' := Lib.hid hz'
  clear h hz hz'
  obtain ⟨u0, hu0⟩ : ∃ u : World, (w.alloc (.cells #[.int .i64 m.next, .slice A m.nodes.length c] 24)).alloc (.cells #[.int .i64 0, .slice none 0 0] 24) = u := ⟨_, rfl⟩
  rw [hu0] at HBA HC HM0 HR0
  have HU0 := Lib.hid hu0
  clear hu0
  have HB0 := HBA
  by_cases hc : CheckM m
  · have HC2 := Lib.hid (int_is (checkI_yes hc) HC.out)
    have HCM := Lib.hid hc
    have HT := Lib.hid hc.tree
    have HS := Lib.hid hc.1.srtB
    have HK4 := Lib.hid hc.kids4
    have hl4 : m.nodes.length ≤ 4096 := hc.1.1.2.2
    have hnx : 1 ≤ m.next ∧ m.next ≤ 1048577 := ⟨hc.1.1.1, hc.1.1.2.1⟩
    clear hc HC
    rcases hwc : wordA concept with _ | _
    · have E := Lib.hid (addE_word (parent := parent) (role := role) (a := a) (concept := concept) HCM.out (Or.inl hwc))
      have HW := Lib.hid hwc
      clear hwc
      go_enter Try.func37, Try.ntmps37
      go_wp2_with fail
      (try rw [HU0.out])
      refine (HC2.out).mono ?_
      rintro _ u1 ⟨rfl, hb⟩
      have HB1 := Lib.hid (HB0.out.trans (hb.mono HB0.out.size))
      have HM1 := Lib.hid (HM0.out.below hb HM0.out.lt)
      have HR1 := Lib.hid (HR0.out.below hb HR0.out.lt)
      clear hb
      go_wp2_with fail
      refine (aword_is hcs HW.out u1).mono ?_
      rintro _ u2 ⟨rfl, hb⟩
      have HB2 := Lib.hid (HB1.out.trans (hb.mono HB1.out.size))
      have HM2 := Lib.hid (HM1.out.below hb HM1.out.lt)
      have HR2 := Lib.hid (HR1.out.below hb HR1.out.lt)
      clear hb
      have t0 := HR2.out.frozen 0; have t1 := HR2.out.frozen 1
      have r0 := HR2.out.cell 0; have r1 := HR2.out.cell 1
      have hrlt := HR2.out.lt
      simp at r0 r1
      go_wp2_with fail
      have hyS := (HR2.out.set_ 0 (.int .i64 0)).set_ 1 (.slice none 0 0)
      have f0 := hyS.cell 0; have f1 := hyS.cell 1
      simp at f0 f1
      have HBW := Lib.hid ((HB2.out.setCell (p := ⟨w.heap.size + 1, 0, none⟩) (Nat.le_succ _) (.int .i64 0)).setCell (p := ⟨w.heap.size + 1, 1, none⟩) (Nat.le_succ _) (.slice none 0 0))
      exact bodyPost_ret (v := .tuple #[.agg #[.int .i64 0, .slice none 0 0], .int .i64 0, .int .i64 (2)]) (by simp [results, Try.results37, go_sem, f0, f1]) rfl ⟨⟨_, rfl, Or.inl ⟨_, by decide, E.out, rfl⟩⟩, HBW.out⟩
    · have HWC := Lib.hid hwc
      clear hwc
      by_cases hp0 : parent = 0
      · subst hp0
        have g0 : ((0 : Int) != 0) = false := by decide
        by_cases hre : rootE role a = 0
        · have HRE := Lib.hid hre
          have HR00 : Hid (role = ⟨#[]⟩) := Lib.hid (by
            unfold rootE at hre
            split at hre
            · rename_i h
              obtain ⟨⟨l⟩⟩ := role
              have := h.1
              have h2 : l.length = 0 := this
              rw [List.length_eq_zero_iff.1 h2]
            · cases hre)
          have E0 := Lib.hid (show addE m 0 role a concept = if m.nodes.length = 4096 ∨ 1048576 < m.next then 4 else 0 by rw [addE_root HCM.out HWC.out, if_neg (fun e => e hre)])
          clear hre
          go_enter Try.func37, Try.ntmps37
          go_wp2_with fail
          (try rw [HU0.out])
          refine (HC2.out).mono ?_
          rintro _ u1 ⟨rfl, hb⟩
          have HB1 := Lib.hid (HB0.out.trans (hb.mono HB0.out.size))
          have HM1 := Lib.hid (HM0.out.below hb HM0.out.lt)
          have HR1 := Lib.hid (HR0.out.below hb HR0.out.lt)
          clear hb
          go_wp2_with fail
          refine (aword_is hcs HWC.out u1).mono ?_
          rintro _ u2 ⟨rfl, hb⟩
          have HB2 := Lib.hid (HB1.out.trans (hb.mono HB1.out.size))
          have HM2 := Lib.hid (HM1.out.below hb HM1.out.lt)
          have HR2 := Lib.hid (HR1.out.below hb HR1.out.lt)
          clear hb
          have m0 := HM2.out.cell 0; have m1 := HM2.out.cell 1
          have hmlt := HM2.out.lt
          simp at m0 m1
          go_wp2_with fail
          refine (int_is HRE.out (goalRoot_any m.next A m.nodes.length c u2 role a 1)).mono ?_
          rintro _ u3 ⟨rfl, hb⟩
          have HB3 := Lib.hid (HB2.out.trans (hb.mono HB2.out.size))
          have HM3 := Lib.hid (HM2.out.below hb HM2.out.lt)
          have HR3 := Lib.hid (HR2.out.below hb HR2.out.lt)
          clear hb
          clear m0 m1 hmlt
          by_cases hfl : m.nodes.length = 4096
          · have E := Lib.hid (show addE m 0 role a concept = 4 by rw [E0.out, if_pos (Or.inl hfl)])
            have hq1 : ((m.nodes.length : Int) == 4096) = true := by rw [hfl]; rfl
            have hq2 : decide ((4096 : Int) ≤ (m.nodes.length : Int)) = true := decide_eq_true (by omega)
            clear hfl
            have m0 := HM3.out.cell 0; have m1 := HM3.out.cell 1
            have hmlt := HM3.out.lt
            simp at m0 m1
            have t0 := HR3.out.frozen 0; have t1 := HR3.out.frozen 1
            have r0 := HR3.out.cell 0; have r1 := HR3.out.cell 1
            have hrlt := HR3.out.lt
            simp at r0 r1
            go_wp2_with fail
            have hyS := (HR3.out.set_ 0 (.int .i64 0)).set_ 1 (.slice none 0 0)
            have f0 := hyS.cell 0; have f1 := hyS.cell 1
            simp at f0 f1
            have HBW := Lib.hid ((HB3.out.setCell (p := ⟨w.heap.size + 1, 0, none⟩) (Nat.le_succ _) (.int .i64 0)).setCell (p := ⟨w.heap.size + 1, 1, none⟩) (Nat.le_succ _) (.slice none 0 0))
            exact bodyPost_ret (v := .tuple #[.agg #[.int .i64 0, .slice none 0 0], .int .i64 0, .int .i64 (4)]) (by simp [results, Try.results37, go_sem, f0, f1]) rfl ⟨⟨_, rfl, Or.inl ⟨_, by decide, E.out, rfl⟩⟩, HBW.out⟩
          · have hq1 : ((m.nodes.length : Int) == 4096) = false := beq_eq_false_iff_ne.2 (by omega)
            have hq2 : decide ((4096 : Int) ≤ (m.nodes.length : Int)) = false := decide_eq_false (by omega)
            by_cases hfn : 1048576 < m.next
            · have E := Lib.hid (show addE m 0 role a concept = 4 by rw [E0.out, if_pos (Or.inr hfn)])
              have hq3 : decide ((1048576 : Int) < m.next) = true := decide_eq_true hfn
              clear hfn
              have m0 := HM3.out.cell 0; have m1 := HM3.out.cell 1
              have hmlt := HM3.out.lt
              simp at m0 m1
              have t0 := HR3.out.frozen 0; have t1 := HR3.out.frozen 1
              have r0 := HR3.out.cell 0; have r1 := HR3.out.cell 1
              have hrlt := HR3.out.lt
              simp at r0 r1
              go_wp2_with fail
              have hyS := (HR3.out.set_ 0 (.int .i64 0)).set_ 1 (.slice none 0 0)
              have f0 := hyS.cell 0; have f1 := hyS.cell 1
              simp at f0 f1
              have HBW := Lib.hid ((HB3.out.setCell (p := ⟨w.heap.size + 1, 0, none⟩) (Nat.le_succ _) (.int .i64 0)).setCell (p := ⟨w.heap.size + 1, 1, none⟩) (Nat.le_succ _) (.slice none 0 0))
              exact bodyPost_ret (v := .tuple #[.agg #[.int .i64 0, .slice none 0 0], .int .i64 0, .int .i64 (4)]) (by simp [results, Try.results37, go_sem, f0, f1]) rfl ⟨⟨_, rfl, Or.inl ⟨_, by decide, E.out, rfl⟩⟩, HBW.out⟩
            · have hq3 : decide ((1048576 : Int) < m.next) = false := decide_eq_false hfn
              have E := Lib.hid (show addE m 0 role a concept = 0 by rw [E0.out, if_neg (by omega)])
              have hnx2 : m.next ≤ 1048576 := by omega
              have m0 := HM3.out.cell 0; have m1 := HM3.out.cell 1
              have hmlt := HM3.out.lt
              simp at m0 m1
              go_wp2_with fail
              refine (twinA_any A c m u3 F (fun b hb => Nat.lt_of_lt_of_le (hF b hb) HB3.out.size) (HH.out.keep ENode.stays (Keep.below HB3.out hF) (fun _ h => h)) HZ'.out (by omega)).mono ?_
              rintro _ u4 ⟨vt, rfl, l, hown, hlm, hb⟩
              have HB4 := Lib.hid (HB3.out.trans (hb.mono HB3.out.size))
              have HM4 := Lib.hid (HM3.out.below hb HM3.out.lt)
              have HR4 := Lib.hid (HR3.out.below hb HR3.out.lt)
              have HSZ := Lib.hid HB3.out.size
              have HO := Lib.hid hown; have HLM := Lib.hid hlm
              have hll : l.length = m.nodes.length := by rw [← hlm]; simp
              have HLX := Lib.hid hll
              have hlb : l.length ≤ 4096 := by omega
              clear hll
              have hRS := HR3.out.lt
              have hbs := hb.size
              obtain ⟨Av, cv, rfl⟩ := own_shape hown.row
              clear hb hown hlm m0 m1 hmlt
              have m0 := HM4.out.cell 0; have m1 := HM4.out.cell 1
              have hmlt := HM4.out.lt
              simp at m0 m1
              go_upto_region 13 with fail
              obtain ⟨p, hp⟩ : ∃ p, u4.heap.size = p := ⟨_, rfl⟩
              obtain ⟨x1, hx1⟩ : ∃ z : World, u4.alloc (.cells #[.int .i64 m.next, .slice Av l.length cv] 24) = z := ⟨_, rfl⟩
              have HX : Hid (Below u4.heap.size u4 x1) := Lib.hid (by rw [← hx1]; exact (Below.refl _ _).alloc (Nat.le_refl _) _)
              have HP : Hid (Blk x1 p 24 #[.int .i64 m.next, .slice Av l.length cv]) := Lib.hid (by rw [← hx1, ← hp]; exact Blk.new _ _ _)
              have HOx := Lib.hid (HO.out.below HX.out)
              have HBx := Lib.hid (HB4.out.trans (HX.out.mono HB4.out.size))
              have HMx := Lib.hid (HM4.out.below HX.out HM4.out.lt)
              have HRx := Lib.hid (HR4.out.below HX.out HR4.out.lt)
              have HPL : Hid (∀ b, some b ∈ ((Value.slice Av l.length cv).ownBlock :: allBlocks l) → b < p) := Lib.hid (fun b hb => by rw [← hp]; exact (HO.out.lt b hb).2)
              have hpw : w.heap.size + 1 < p := by have := HR4.out.lt; omega
              (try rw [hx1])
              (try rw [hp])
              clear hx1 m0 m1 hmlt HO
              have hup : u3.heap.size ≤ p := by omega
              clear hp
              have p0 := HP.out.cell 0; have p1 := HP.out.cell 1
              have z0 := HP.out.frozen 0; have z1 := HP.out.frozen 1
              have hplt := HP.out.lt
              simp at p0 p1
              have m0 := HMx.out.cell 0; have m1 := HMx.out.cell 1
              have hmlt := HMx.out.lt
              simp at m0 m1
              have hw1 : IntKind.i64.wrap (m.next + 1) = m.next + 1 := by rw [IntKind.wrap_i64]; omega
              have HP2 := Lib.hid (HP.out.set_ 0 (.int .i64 (m.next + 1)))
              have HB2x := Lib.hid (HBx.out.setCell (p := ⟨p, 0, none⟩) (by show w.heap.size ≤ p; omega) (.int .i64 (m.next + 1)))
              have HM2x := Lib.hid (HMx.out.far (p := ⟨p, 0, none⟩) (by show w.heap.size ≠ p; omega) (.int .i64 (m.next + 1)))
              have HR2x := Lib.hid (HRx.out.far (p := ⟨p, 0, none⟩) (by show w.heap.size + 1 ≠ p; omega) (.int .i64 (m.next + 1)))
              have HO2x : Hid (OwnM (x1.setCell ⟨p, 0, none⟩ (.int .i64 (m.next + 1))) u3.heap.size (.slice Av l.length cv) l) := Lib.hid ⟨own_keep HOx.out.row fun b e => Below.heap_setCell _ _ _ _ (by have := HPL.out b (by rw [← e]; exact List.mem_cons_self ..); show b ≠ p; omega), fun y hy => (HOx.out.lists y hy).keep fun b hb => Below.heap_setCell _ _ _ _ (by have := HPL.out b (List.mem_cons_of_mem _ (mem_all hy hb)); show b ≠ p; omega), HOx.out.dis⟩
              have HWE : Hid (∃ z, z = x1.setCell ⟨p, 0, none⟩ (.int .i64 (m.next + 1))) := Lib.hid ⟨_, rfl⟩
              have hsx : p < (x1.setCell ⟨p, 0, none⟩ (.int .i64 (m.next + 1))).heap.size := by simpa using hplt
              simp only [Array.setIfInBounds] at HP2
              go_upto_region 15 with fail
              obtain ⟨x2, hx2⟩ := HWE.out
              rw [← hx2] at HP2 HB2x HM2x HR2x HO2x hsx
              (try rw [← hx2])
              clear hx2 HWE p0 p1 z0 z1 hplt m0 m1 hmlt HP HBx HMx HRx HOx
              have HP2' : Hid (Blk x2 p 24 #[.int .i64 (m.next + 1), .slice Av l.length cv]) := Lib.hid (by simpa using HP2.out)
              clear HP2
              have HP := HP2'; have HBx := HB2x; have HMx := HM2x; have HRx := HR2x; have HOx := HO2x
              clear HP2' HB2x HM2x HR2x HO2x
              have p0 := HP.out.cell 0; have p1 := HP.out.cell 1
              have z0 := HP.out.frozen 0; have z1 := HP.out.frozen 1
              have hplt := HP.out.lt
              simp at p0 p1
              obtain ⟨q, hq⟩ : ∃ q, x2.heap.size = q := ⟨_, rfl⟩
              have HQ : Hid (Blk (x2.alloc (.cells #[.int .i64 m.next, .string concept, .int .i64 0, .string ⟨#[]⟩, .slice none 0 0, .slice none 0 0, .slice none 0 0] 38)) q 38 #[.int .i64 m.next, .string concept, .int .i64 0, .string ⟨#[]⟩, .slice none 0 0, .slice none 0 0, .slice none 0 0]) := Lib.hid (by rw [← hq]; exact Blk.new _ _ _)
              have HOq := Lib.hid (HOx.out.below ((Below.refl x2.heap.size x2).alloc (Nat.le_refl _) (.cells #[.int .i64 m.next, .string concept, .int .i64 0, .string ⟨#[]⟩, .slice none 0 0, .slice none 0 0, .slice none 0 0] 38)))
              have HPq := Lib.hid (HP.out.alloc (.cells #[.int .i64 m.next, .string concept, .int .i64 0, .string ⟨#[]⟩, .slice none 0 0, .slice none 0 0, .slice none 0 0] 38))
              have hqs : u3.heap.size ≤ x2.heap.size := by omega
              have HBq := Lib.hid (HBx.out.alloc HBx.out.size (.cells #[.int .i64 m.next, .string concept, .int .i64 0, .string ⟨#[]⟩, .slice none 0 0, .slice none 0 0, .slice none 0 0] 38))
              have HMq := Lib.hid (HMx.out.alloc (.cells #[.int .i64 m.next, .string concept, .int .i64 0, .string ⟨#[]⟩, .slice none 0 0, .slice none 0 0, .slice none 0 0] 38))
              have HRq := Lib.hid (HRx.out.alloc (.cells #[.int .i64 m.next, .string concept, .int .i64 0, .string ⟨#[]⟩, .slice none 0 0, .slice none 0 0, .slice none 0 0] 38))
              go_wp2_with (at_builtin; refine wpList_append_from _ rfl (.tmp 70) (.tmp 74) 22 rfl u3.heap.size 38 Try.underlying22 node_info rfl (by omega) (.slice Av l.length cv) l.length (l.flatMap LN.cells) (by first | rfl | simp [Act.eval]) HOq.out.row (some ⟨x2.heap.size, 0, none⟩) 1 1 (LN.cells (⟨newN m concept 0 ⟨#[]⟩, .slice none 0 0, .slice none 0 0, .slice none 0 0⟩ : LN)) (by first | rfl | simp [Act.eval]) rfl (by simp) (fun ad e => by cases e; rw [hq]; exact news_cells HQ.out) (fun u hu => by simp only [LN.cells, nodeCellsA, newN, List.mem_cons, List.not_mem_nil, or_false] at hu; rcases hu with rfl | rfl | rfl | rfl | rfl | rfl | rfl <;> rfl) (by unfold maxLen; omega) (by omega) (by simp; omega) ?_)
              intro A6 c6 w6 own6 hg6 hat6
              have hrow := fun k (e : (Value.slice Av l.length cv).ownBlock = some k) => HPL.out k (by rw [← e]; exact List.mem_cons_self ..)
              have hrow2 := fun k (e : (Value.slice Av l.length cv).ownBlock = some k) => (HOq.out.row.lt k e).1
              have HW6 := Lib.hid (HOq.out.push (x := (⟨newN m concept 0 ⟨#[]⟩, .slice none 0 0, .slice none 0 0, .slice none 0 0⟩ : LN)) ⟨World.ownsRow_nil _ _ _ _, OwnI.nil _ _, World.ownsRow_nil _ _ _ _⟩ (fun b => by simp [LN.blocks, Value.ownBlock]) (fun b hb => by simp [LN.blocks, Value.ownBlock] at hb) own6 hg6 (by rcases hat6 with e | e; exact .inl e; exact .inr (by rw [e]; simp [hq])))
              have HB6 := Lib.hid (HBq.out.grown hg6 (by simp; have := HBx.out.size; omega) (fun k e => by have := hrow2 k e; have := HSZ.out; omega))
              have HP6 := Lib.hid (HPq.out.grown hg6 (fun e => by have := hrow _ e.symm; omega))
              have HM6 := Lib.hid (HMq.out.grown hg6 (fun e => by have := hrow2 _ e.symm; have := HSZ.out; omega))
              have HR6 := Lib.hid (HRq.out.grown hg6 (fun e => by have := hrow2 _ e.symm; omega))
              have HAT : Hid (∀ b, some b ∈ ((Value.slice A6 (l.length + 1) c6).ownBlock :: allBlocks (l ++ [(⟨newN m concept 0 ⟨#[]⟩, .slice none 0 0, .slice none 0 0, .slice none 0 0⟩ : LN)])) → b ≠ p) := Lib.hid (fun b hb e => by
                subst e
                rcases List.mem_cons.1 hb with hb | hb
                · rcases hat6 with e | e
                  · have := hrow b (by rw [← e]; exact hb.symm); omega
                  · have h2 := hb.trans e
                    injection h2 with h2
                    (try simp at h2)
                    omega
                · rw [all_append, List.mem_append] at hb
                  rcases hb with hb | hb
                  · have := HPL.out b (List.mem_cons_of_mem _ hb); omega
                  · simp [allBlocks, LN.blocks, Value.ownBlock] at hb)
              have hs6 := hg6.size
              clear own6 hg6 hat6 hrow hrow2 p0 p1 z0 z1
              have p0 := HP6.out.cell 0; have p1 := HP6.out.cell 1
              have z0 := HP6.out.frozen 0; have z1 := HP6.out.frozen 1
              have hplt6 := HP6.out.lt
              simp at p0 p1
              have HP7 := Lib.hid (HP6.out.set_ 1 (.slice A6 (l.length + 1) c6))
              have HB7 := Lib.hid (HB6.out.setCell (p := ⟨p, 1, none⟩) (by show w.heap.size ≤ p; omega) (.slice A6 (l.length + 1) c6))
              have HM7 := Lib.hid (HM6.out.far (p := ⟨p, 1, none⟩) (by show w.heap.size ≠ p; omega) (.slice A6 (l.length + 1) c6))
              have HR7 := Lib.hid (HR6.out.far (p := ⟨p, 1, none⟩) (by show w.heap.size + 1 ≠ p; omega) (.slice A6 (l.length + 1) c6))
              have HO7 : Hid (OwnM (w6.setCell ⟨p, 1, none⟩ (.slice A6 (l.length + 1) c6)) u3.heap.size (.slice A6 (l.length + 1) c6) (l ++ [(⟨newN m concept 0 ⟨#[]⟩, .slice none 0 0, .slice none 0 0, .slice none 0 0⟩ : LN)])) := Lib.hid ⟨own_keep HW6.out.row fun b e => Below.heap_setCell _ _ _ _ (HAT.out b (by rw [← e]; exact List.mem_cons_self ..)), fun y hy => (HW6.out.lists y hy).keep fun b hb => Below.heap_setCell _ _ _ _ (HAT.out b (List.mem_cons_of_mem _ (mem_all hy hb))), HW6.out.dis⟩
              have HWE : Hid (∃ z, z = w6.setCell ⟨p, 1, none⟩ (.slice A6 (l.length + 1) c6)) := Lib.hid ⟨_, rfl⟩
              have hs7 : u3.heap.size ≤ (w6.setCell ⟨p, 1, none⟩ (.slice A6 (l.length + 1) c6)).heap.size := by simp at hs6 ⊢; omega
              go_upto_region 16 with fail
              obtain ⟨x3, hx3⟩ := HWE.out
              rw [← hx3] at HP7 HB7 HM7 HR7 HO7 hs7
              (try rw [← hx3])
              clear hx3 HWE p0 p1 z0 z1 hplt6 HP6 HB6 HM6 HR6 HW6 hs6 HQ HOq HPq HBq HMq HRq hq HP HBx HMx HRx HOx
              have HP8 : Hid (Blk x3 p 24 #[.int .i64 (m.next + 1), .slice A6 (l.length + 1) c6]) := Lib.hid (by simpa using HP7.out)
              clear HP7
              have hll := HLX.out
              have HMAP : Hid ((l ++ [(⟨newN m concept 0 ⟨#[]⟩, .slice none 0 0, .slice none 0 0, .slice none 0 0⟩ : LN)]).map LN.n = m.nodes ++ [newN m concept 0 ⟨#[]⟩]) := Lib.hid (by rw [List.map_append, HLM.out]; rfl)
              have HLL := Lib.hid (show (l ++ [(⟨newN m concept 0 ⟨#[]⟩, .slice none 0 0, .slice none 0 0, .slice none 0 0⟩ : LN)]).length = l.length + 1 by simp)
              have p0 := HP8.out.cell 0; have p1 := HP8.out.cell 1
              have hplt := HP8.out.lt
              simp at p0 p1
              have HSR := Lib.hid (more_srt (n0 := newN m concept 0 ⟨#[]⟩) HCM.out hnx2 rfl)
              have HCL := Lib.hid (more_closed (n0 := newN m concept 0 ⟨#[]⟩) HCM.out rfl)
              have HKR := Lib.hid (more_kids (n0 := newN m concept 0 ⟨#[]⟩) (fun x hx => (HZ.out x hx).2.2) rfl)
              have HHG := Lib.hid (hangRoot_any (m.next + 1) (.slice A6 (l.length + 1) c6) (l ++ [(⟨newN m concept 0 ⟨#[]⟩, .slice none 0 0, .slice none 0 0, .slice none 0 0⟩ : LN)]) x3 u3.heap.size _ (fun _ h => h) HO7.out hs7 (by rw [HMAP.out]; exact HSR.out) (by rw [HLL.out]; omega) l.length (by rw [HLL.out]; omega) (⟨newN m concept 0 ⟨#[]⟩, .slice none 0 0, .slice none 0 0, .slice none 0 0⟩ : LN) (by simp) role a)
              have HHG2 := HHG.out
              rw [show ((⟨newN m concept 0 ⟨#[]⟩, .slice none 0 0, .slice none 0 0, .slice none 0 0⟩ : LN)).n.id = m.next from rfl] at HHG2
              have HHG3 := Lib.hid HHG2
              clear HHG HHG2 hll
              go_wp2_with fail
              refine HHG3.out.mono ?_
              rintro _ x5 ⟨rfl, l2, hown2, hmap2, hk5⟩
              have HB10 := Lib.hid (HB7.out.trans (hk5.toBelow (B := w.heap.size) HB7.out.size (fun b hb => by have := (HO7.out.lt b hb).1; have := HSZ.out; omega)))
              have HRA := Lib.hid (hk5.blk HR7.out (fun hb => by have := (HO7.out.lt _ hb).1; omega))
              have HPA := Lib.hid (hk5.blk HP8.out (fun hb => HAT.out _ hb rfl))
              have HMA := Lib.hid (hk5.blk HM7.out (fun hb => by have := (HO7.out.lt _ hb).1; omega))
              have HOW2 := Lib.hid hown2
              have HMAP2 := Lib.hid hmap2
              clear hown2 hmap2 hk5 p0 p1 hplt HHG3
              have p0 := HPA.out.cell 0; have p1 := HPA.out.cell 1
              have hplt := HPA.out.lt
              simp at p0 p1
              have t0 := HRA.out.frozen 0; have t1 := HRA.out.frozen 1
              have r0 := HRA.out.cell 0; have r1 := HRA.out.cell 1
              have hrlt := HRA.out.lt
              simp at r0 r1
              go_wp2_with fail
              have HRZ := HRA; have HBZ := HB10; have HOZ := HOW2
              have hyS := (HRZ.out.set_ 0 (.int .i64 (m.next + 1))).set_ 1 (.slice A6 (l.length + 1) c6)
              have f0 := hyS.cell 0; have f1 := hyS.cell 1
              simp at f0 f1
              have HBW := Lib.hid ((HBZ.out.setCell (p := ⟨w.heap.size + 1, 0, none⟩) (Nat.le_succ _) (.int .i64 (m.next + 1))).setCell (p := ⟨w.heap.size + 1, 1, none⟩) (Nat.le_succ _) (.slice A6 (l.length + 1) c6))
              refine bodyPost_ret (v := .tuple #[.agg #[.int .i64 (m.next + 1), .slice A6 (l.length + 1) c6], .int .i64 m.next, .int .i64 0]) (by simp [results, Try.results37, go_sem, f0, f1]) rfl ⟨⟨_, rfl, Or.inr ⟨E.out, _, l2, rfl, ?_, ?_⟩⟩, HBW.out⟩
              · refine (HOZ.out.keep (fun b h1 _ => ?_)).weaken HSZ.out
                exact (Below.heap_setCell _ _ _ _ (by show b ≠ w.heap.size + 1; omega)).trans (Below.heap_setCell _ _ _ _ (by show b ≠ w.heap.size + 1; omega))
              · exact Or.inl ⟨rfl, by rw [HMAP2.out, HMAP.out, HLX.out, set_last]; unfold addRoot newN; rw [HR00.out]⟩
        · have hr22 : rootE role a = 22 := by unfold rootE at hre ⊢; split at hre; exact absurd rfl hre; rw [if_neg (by assumption)]
          have E2 := Lib.hid (show addE m 0 role a concept = 22 by rw [addE_root HCM.out HWC.out, if_pos hre, hr22])
          have HR22 := Lib.hid hr22
          clear hre hr22
          go_enter Try.func37, Try.ntmps37
          go_wp2_with fail
          (try rw [HU0.out])
          refine (HC2.out).mono ?_
          rintro _ u1 ⟨rfl, hb⟩
          have HB1 := Lib.hid (HB0.out.trans (hb.mono HB0.out.size))
          have HM1 := Lib.hid (HM0.out.below hb HM0.out.lt)
          have HR1 := Lib.hid (HR0.out.below hb HR0.out.lt)
          clear hb
          go_wp2_with fail
          refine (aword_is hcs HWC.out u1).mono ?_
          rintro _ u2 ⟨rfl, hb⟩
          have HB2 := Lib.hid (HB1.out.trans (hb.mono HB1.out.size))
          have HM2 := Lib.hid (HM1.out.below hb HM1.out.lt)
          have HR2 := Lib.hid (HR1.out.below hb HR1.out.lt)
          clear hb
          have m0 := HM2.out.cell 0; have m1 := HM2.out.cell 1
          have hmlt := HM2.out.lt
          simp at m0 m1
          go_wp2_with fail
          refine (int_is HR22.out (goalRoot_any m.next A m.nodes.length c u2 role a 1)).mono ?_
          rintro _ u3 ⟨rfl, hb⟩
          have HB3 := Lib.hid (HB2.out.trans (hb.mono HB2.out.size))
          have HM3 := Lib.hid (HM2.out.below hb HM2.out.lt)
          have HR3 := Lib.hid (HR2.out.below hb HR2.out.lt)
          clear hb
          clear m0 m1 hmlt
          have t0 := HR3.out.frozen 0; have t1 := HR3.out.frozen 1
          have r0 := HR3.out.cell 0; have r1 := HR3.out.cell 1
          have hrlt := HR3.out.lt
          simp at r0 r1
          go_wp2_with fail
          have hyS := (HR3.out.set_ 0 (.int .i64 0)).set_ 1 (.slice none 0 0)
          have f0 := hyS.cell 0; have f1 := hyS.cell 1
          simp at f0 f1
          have HBW := Lib.hid ((HB3.out.setCell (p := ⟨w.heap.size + 1, 0, none⟩) (Nat.le_succ _) (.int .i64 0)).setCell (p := ⟨w.heap.size + 1, 1, none⟩) (Nat.le_succ _) (.slice none 0 0))
          exact bodyPost_ret (v := .tuple #[.agg #[.int .i64 0, .slice none 0 0], .int .i64 0, .int .i64 (22)]) (by simp [results, Try.results37, go_sem, f0, f1]) rfl ⟨⟨_, rfl, Or.inl ⟨_, by decide, E2.out, rfl⟩⟩, HBW.out⟩
      · have g0 : (parent != 0) = true := bne_iff_ne.2 hp0
        rcases hwr : wordA role with _ | _
        · have E := Lib.hid (addE_word (parent := parent) (role := role) (a := a) (concept := concept) HCM.out (Or.inr ⟨hp0, hwr⟩))
          have HWR2 := Lib.hid hwr
          clear hwr
          go_enter Try.func37, Try.ntmps37
          go_wp2_with fail
          (try rw [HU0.out])
          refine (HC2.out).mono ?_
          rintro _ u1 ⟨rfl, hb⟩
          have HB1 := Lib.hid (HB0.out.trans (hb.mono HB0.out.size))
          have HM1 := Lib.hid (HM0.out.below hb HM0.out.lt)
          have HR1 := Lib.hid (HR0.out.below hb HR0.out.lt)
          clear hb
          go_wp2_with fail
          refine (aword_is hcs HWC.out u1).mono ?_
          rintro _ u2 ⟨rfl, hb⟩
          have HB2 := Lib.hid (HB1.out.trans (hb.mono HB1.out.size))
          have HM2 := Lib.hid (HM1.out.below hb HM1.out.lt)
          have HR2 := Lib.hid (HR1.out.below hb HR1.out.lt)
          clear hb
          go_wp2_with fail
          refine (aword_is hrs HWR2.out u2).mono ?_
          rintro _ u3 ⟨rfl, hb⟩
          have HB3 := Lib.hid (HB2.out.trans (hb.mono HB2.out.size))
          have HM3 := Lib.hid (HM2.out.below hb HM2.out.lt)
          have HR3 := Lib.hid (HR2.out.below hb HR2.out.lt)
          clear hb
          have t0 := HR3.out.frozen 0; have t1 := HR3.out.frozen 1
          have r0 := HR3.out.cell 0; have r1 := HR3.out.cell 1
          have hrlt := HR3.out.lt
          simp at r0 r1
          go_wp2_with fail
          have hyS := (HR3.out.set_ 0 (.int .i64 0)).set_ 1 (.slice none 0 0)
          have f0 := hyS.cell 0; have f1 := hyS.cell 1
          simp at f0 f1
          have HBW := Lib.hid ((HB3.out.setCell (p := ⟨w.heap.size + 1, 0, none⟩) (Nat.le_succ _) (.int .i64 0)).setCell (p := ⟨w.heap.size + 1, 1, none⟩) (Nat.le_succ _) (.slice none 0 0))
          exact bodyPost_ret (v := .tuple #[.agg #[.int .i64 0, .slice none 0 0], .int .i64 0, .int .i64 (2)]) (by simp [results, Try.results37, go_sem, f0, f1]) rfl ⟨⟨_, rfl, Or.inl ⟨_, by decide, E.out, rfl⟩⟩, HBW.out⟩
        · have HWR2 := Lib.hid hwr
          clear hwr
          rcases atI_cases m.nodes parent with ⟨jp, hjp, hj1, hj2⟩ | ⟨hj1, hj2⟩
          · obtain ⟨y, hy⟩ : ∃ y, m.nodes[jp] = y := ⟨_, rfl⟩
            have hym : y ∈ m.nodes := by rw [← hy]; exact List.getElem_mem hjp
            have hyi : y.id = parent := by rw [← hy]; exact hj1
            subst hyi
            have HYE := Lib.hid hy; have HYm := Lib.hid hym; have HAT2 := Lib.hid hj2
            obtain ⟨d, hd6, hd⟩ := HT.out.dep y hym
            have HD := Lib.hid hd
            have g4 : decide ((jp : Int) < 0) = false := decide_eq_false (by omega)
            have EK := Lib.hid (addE_kid (role := role) (a := a) (concept := concept) HCM.out HWC.out hym HWR2.out hd)
            clear hy hym hj1 hj2 hd
            rcases hsp : spotI y.kids (inL m y role) a with _ | i
            · have E := Lib.hid (show addE m y.id role a concept = 22 by rw [EK.out, hsp]; rfl)
              have HKE := Lib.hid (show kidE (spotI y.kids (inL m y role) a) d 1 = 22 by rw [hsp]; rfl)
              clear hsp EK
              go_enter Try.func37, Try.ntmps37
              go_wp2_with fail
              (try rw [HU0.out])
              refine (HC2.out).mono ?_
              rintro _ u1 ⟨rfl, hb⟩
              have HB1 := Lib.hid (HB0.out.trans (hb.mono HB0.out.size))
              have HM1 := Lib.hid (HM0.out.below hb HM0.out.lt)
              have HR1 := Lib.hid (HR0.out.below hb HR0.out.lt)
              clear hb
              go_wp2_with fail
              refine (aword_is hcs HWC.out u1).mono ?_
              rintro _ u2 ⟨rfl, hb⟩
              have HB2 := Lib.hid (HB1.out.trans (hb.mono HB1.out.size))
              have HM2 := Lib.hid (HM1.out.below hb HM1.out.lt)
              have HR2 := Lib.hid (HR1.out.below hb HR1.out.lt)
              clear hb
              go_wp2_with fail
              refine (aword_is hrs HWR2.out u2).mono ?_
              rintro _ u3 ⟨rfl, hb⟩
              have HB3 := Lib.hid (HB2.out.trans (hb.mono HB2.out.size))
              have HM3 := Lib.hid (HM2.out.below hb HM2.out.lt)
              have HR3 := Lib.hid (HR2.out.below hb HR2.out.lt)
              clear hb
              have m0 := HM3.out.cell 0; have m1 := HM3.out.cell 1
              have hmlt := HM3.out.lt
              simp at m0 m1
              go_wp2_with fail
              refine (int_is HAT2.out (place_any A c m.next y.id m.nodes u3 F (fun b hb => Nat.lt_of_lt_of_le (hF b hb) HB3.out.size) (HH.out.keep ENode.stays (Keep.below HB3.out hF) (fun _ h => h)) HS.out hpr (by omega))).mono ?_
              rintro _ u4 ⟨rfl, hb⟩
              have HB4 := Lib.hid (HB3.out.trans (hb.mono HB3.out.size))
              have HM4 := Lib.hid (HM3.out.below hb HM3.out.lt)
              have HR4 := Lib.hid (HR3.out.below hb HR3.out.lt)
              clear hb
              clear m0 m1 hmlt
              have m0 := HM4.out.cell 0; have m1 := HM4.out.cell 1
              have hmlt := HM4.out.lt
              simp at m0 m1
              go_wp2_with fail
              refine (int_is HKE.out (goalKid_any A c m u4 F (fun b hb => Nat.lt_of_lt_of_le (hF b hb) HB4.out.size) (HH.out.keep ENode.stays (Keep.below HB4.out hF) (fun _ h => h)) HT.out HS.out (fun x hx => (HZ.out x hx).2.1) (fun x hx => (HZ.out x hx).2.2) (by omega) jp hjp y HYE.out (HK4.out y HYm.out) role a ha d HD.out hd6 1 ⟨by omega, by omega⟩)).mono ?_
              rintro _ u5 ⟨rfl, hb⟩
              have HB5 := Lib.hid (HB4.out.trans (hb.mono HB4.out.size))
              have HM5 := Lib.hid (HM4.out.below hb HM4.out.lt)
              have HR5 := Lib.hid (HR4.out.below hb HR4.out.lt)
              clear hb
              clear m0 m1 hmlt
              have t0 := HR5.out.frozen 0; have t1 := HR5.out.frozen 1
              have r0 := HR5.out.cell 0; have r1 := HR5.out.cell 1
              have hrlt := HR5.out.lt
              simp at r0 r1
              go_wp2_with fail
              have hyS := (HR5.out.set_ 0 (.int .i64 0)).set_ 1 (.slice none 0 0)
              have f0 := hyS.cell 0; have f1 := hyS.cell 1
              simp at f0 f1
              have HBW := Lib.hid ((HB5.out.setCell (p := ⟨w.heap.size + 1, 0, none⟩) (Nat.le_succ _) (.int .i64 0)).setCell (p := ⟨w.heap.size + 1, 1, none⟩) (Nat.le_succ _) (.slice none 0 0))
              exact bodyPost_ret (v := .tuple #[.agg #[.int .i64 0, .slice none 0 0], .int .i64 0, .int .i64 (22)]) (by simp [results, Try.results37, go_sem, f0, f1]) rfl ⟨⟨_, rfl, Or.inl ⟨_, by decide, E.out, rfl⟩⟩, HBW.out⟩
            · by_cases hdd : 64 < (d : Int) + 1
              · have E := Lib.hid (show addE m y.id role a concept = 23 by rw [EK.out, hsp, kidE_deep hdd]; rfl)
                have HKE := Lib.hid (show kidE (spotI y.kids (inL m y role) a) d 1 = 23 by rw [hsp, kidE_deep hdd])
                clear hsp EK hdd
                go_enter Try.func37, Try.ntmps37
                go_wp2_with fail
                (try rw [HU0.out])
                refine (HC2.out).mono ?_
                rintro _ u1 ⟨rfl, hb⟩
                have HB1 := Lib.hid (HB0.out.trans (hb.mono HB0.out.size))
                have HM1 := Lib.hid (HM0.out.below hb HM0.out.lt)
                have HR1 := Lib.hid (HR0.out.below hb HR0.out.lt)
                clear hb
                go_wp2_with fail
                refine (aword_is hcs HWC.out u1).mono ?_
                rintro _ u2 ⟨rfl, hb⟩
                have HB2 := Lib.hid (HB1.out.trans (hb.mono HB1.out.size))
                have HM2 := Lib.hid (HM1.out.below hb HM1.out.lt)
                have HR2 := Lib.hid (HR1.out.below hb HR1.out.lt)
                clear hb
                go_wp2_with fail
                refine (aword_is hrs HWR2.out u2).mono ?_
                rintro _ u3 ⟨rfl, hb⟩
                have HB3 := Lib.hid (HB2.out.trans (hb.mono HB2.out.size))
                have HM3 := Lib.hid (HM2.out.below hb HM2.out.lt)
                have HR3 := Lib.hid (HR2.out.below hb HR2.out.lt)
                clear hb
                have m0 := HM3.out.cell 0; have m1 := HM3.out.cell 1
                have hmlt := HM3.out.lt
                simp at m0 m1
                go_wp2_with fail
                refine (int_is HAT2.out (place_any A c m.next y.id m.nodes u3 F (fun b hb => Nat.lt_of_lt_of_le (hF b hb) HB3.out.size) (HH.out.keep ENode.stays (Keep.below HB3.out hF) (fun _ h => h)) HS.out hpr (by omega))).mono ?_
                rintro _ u4 ⟨rfl, hb⟩
                have HB4 := Lib.hid (HB3.out.trans (hb.mono HB3.out.size))
                have HM4 := Lib.hid (HM3.out.below hb HM3.out.lt)
                have HR4 := Lib.hid (HR3.out.below hb HR3.out.lt)
                clear hb
                clear m0 m1 hmlt
                have m0 := HM4.out.cell 0; have m1 := HM4.out.cell 1
                have hmlt := HM4.out.lt
                simp at m0 m1
                go_wp2_with fail
                refine (int_is HKE.out (goalKid_any A c m u4 F (fun b hb => Nat.lt_of_lt_of_le (hF b hb) HB4.out.size) (HH.out.keep ENode.stays (Keep.below HB4.out hF) (fun _ h => h)) HT.out HS.out (fun x hx => (HZ.out x hx).2.1) (fun x hx => (HZ.out x hx).2.2) (by omega) jp hjp y HYE.out (HK4.out y HYm.out) role a ha d HD.out hd6 1 ⟨by omega, by omega⟩)).mono ?_
                rintro _ u5 ⟨rfl, hb⟩
                have HB5 := Lib.hid (HB4.out.trans (hb.mono HB4.out.size))
                have HM5 := Lib.hid (HM4.out.below hb HM4.out.lt)
                have HR5 := Lib.hid (HR4.out.below hb HR4.out.lt)
                clear hb
                clear m0 m1 hmlt
                have t0 := HR5.out.frozen 0; have t1 := HR5.out.frozen 1
                have r0 := HR5.out.cell 0; have r1 := HR5.out.cell 1
                have hrlt := HR5.out.lt
                simp at r0 r1
                go_wp2_with fail
                have hyS := (HR5.out.set_ 0 (.int .i64 0)).set_ 1 (.slice none 0 0)
                have f0 := hyS.cell 0; have f1 := hyS.cell 1
                simp at f0 f1
                have HBW := Lib.hid ((HB5.out.setCell (p := ⟨w.heap.size + 1, 0, none⟩) (Nat.le_succ _) (.int .i64 0)).setCell (p := ⟨w.heap.size + 1, 1, none⟩) (Nat.le_succ _) (.slice none 0 0))
                exact bodyPost_ret (v := .tuple #[.agg #[.int .i64 0, .slice none 0 0], .int .i64 0, .int .i64 (23)]) (by simp [results, Try.results37, go_sem, f0, f1]) rfl ⟨⟨_, rfl, Or.inl ⟨_, by decide, E.out, rfl⟩⟩, HBW.out⟩
              · have E0 := Lib.hid (show addE m y.id role a concept = if m.nodes.length = 4096 ∨ 1048576 < m.next then 4 else 0 by rw [EK.out, hsp, kidE_ok hdd]; rfl)
                have HKE := Lib.hid (show kidE (spotI y.kids (inL m y role) a) d 1 = 0 by rw [hsp, kidE_ok hdd])
                have hi0 := (spotI_le inL_sub hsp).1
                obtain ⟨i0, hi0'⟩ : ∃ i0 : Nat, i = i0 := ⟨i.toNat, by omega⟩
                subst hi0'
                have HSPI := Lib.hid hsp
                clear hsp EK hdd
                go_enter Try.func37, Try.ntmps37
                go_wp2_with fail
                (try rw [HU0.out])
                refine (HC2.out).mono ?_
                rintro _ u1 ⟨rfl, hb⟩
                have HB1 := Lib.hid (HB0.out.trans (hb.mono HB0.out.size))
                have HM1 := Lib.hid (HM0.out.below hb HM0.out.lt)
                have HR1 := Lib.hid (HR0.out.below hb HR0.out.lt)
                clear hb
                go_wp2_with fail
                refine (aword_is hcs HWC.out u1).mono ?_
                rintro _ u2 ⟨rfl, hb⟩
                have HB2 := Lib.hid (HB1.out.trans (hb.mono HB1.out.size))
                have HM2 := Lib.hid (HM1.out.below hb HM1.out.lt)
                have HR2 := Lib.hid (HR1.out.below hb HR1.out.lt)
                clear hb
                go_wp2_with fail
                refine (aword_is hrs HWR2.out u2).mono ?_
                rintro _ u3 ⟨rfl, hb⟩
                have HB3 := Lib.hid (HB2.out.trans (hb.mono HB2.out.size))
                have HM3 := Lib.hid (HM2.out.below hb HM2.out.lt)
                have HR3 := Lib.hid (HR2.out.below hb HR2.out.lt)
                clear hb
                have m0 := HM3.out.cell 0; have m1 := HM3.out.cell 1
                have hmlt := HM3.out.lt
                simp at m0 m1
                go_wp2_with fail
                refine (int_is HAT2.out (place_any A c m.next y.id m.nodes u3 F (fun b hb => Nat.lt_of_lt_of_le (hF b hb) HB3.out.size) (HH.out.keep ENode.stays (Keep.below HB3.out hF) (fun _ h => h)) HS.out hpr (by omega))).mono ?_
                rintro _ u4 ⟨rfl, hb⟩
                have HB4 := Lib.hid (HB3.out.trans (hb.mono HB3.out.size))
                have HM4 := Lib.hid (HM3.out.below hb HM3.out.lt)
                have HR4 := Lib.hid (HR3.out.below hb HR3.out.lt)
                clear hb
                clear m0 m1 hmlt
                have m0 := HM4.out.cell 0; have m1 := HM4.out.cell 1
                have hmlt := HM4.out.lt
                simp at m0 m1
                go_wp2_with fail
                refine (int_is HKE.out (goalKid_any A c m u4 F (fun b hb => Nat.lt_of_lt_of_le (hF b hb) HB4.out.size) (HH.out.keep ENode.stays (Keep.below HB4.out hF) (fun _ h => h)) HT.out HS.out (fun x hx => (HZ.out x hx).2.1) (fun x hx => (HZ.out x hx).2.2) (by omega) jp hjp y HYE.out (HK4.out y HYm.out) role a ha d HD.out hd6 1 ⟨by omega, by omega⟩)).mono ?_
                rintro _ u5 ⟨rfl, hb⟩
                have HB5 := Lib.hid (HB4.out.trans (hb.mono HB4.out.size))
                have HM5 := Lib.hid (HM4.out.below hb HM4.out.lt)
                have HR5 := Lib.hid (HR4.out.below hb HR4.out.lt)
                clear hb
                clear m0 m1 hmlt
                by_cases hfl : m.nodes.length = 4096
                · have E := Lib.hid (show addE m y.id role a concept = 4 by rw [E0.out, if_pos (Or.inl hfl)])
                  have hq1 : ((m.nodes.length : Int) == 4096) = true := by rw [hfl]; rfl
                  have hq2 : decide ((4096 : Int) ≤ (m.nodes.length : Int)) = true := decide_eq_true (by omega)
                  clear hfl
                  have m0 := HM5.out.cell 0; have m1 := HM5.out.cell 1
                  have hmlt := HM5.out.lt
                  simp at m0 m1
                  have t0 := HR5.out.frozen 0; have t1 := HR5.out.frozen 1
                  have r0 := HR5.out.cell 0; have r1 := HR5.out.cell 1
                  have hrlt := HR5.out.lt
                  simp at r0 r1
                  go_wp2_with fail
                  have hyS := (HR5.out.set_ 0 (.int .i64 0)).set_ 1 (.slice none 0 0)
                  have f0 := hyS.cell 0; have f1 := hyS.cell 1
                  simp at f0 f1
                  have HBW := Lib.hid ((HB5.out.setCell (p := ⟨w.heap.size + 1, 0, none⟩) (Nat.le_succ _) (.int .i64 0)).setCell (p := ⟨w.heap.size + 1, 1, none⟩) (Nat.le_succ _) (.slice none 0 0))
                  exact bodyPost_ret (v := .tuple #[.agg #[.int .i64 0, .slice none 0 0], .int .i64 0, .int .i64 (4)]) (by simp [results, Try.results37, go_sem, f0, f1]) rfl ⟨⟨_, rfl, Or.inl ⟨_, by decide, E.out, rfl⟩⟩, HBW.out⟩
                · have hq1 : ((m.nodes.length : Int) == 4096) = false := beq_eq_false_iff_ne.2 (by omega)
                  have hq2 : decide ((4096 : Int) ≤ (m.nodes.length : Int)) = false := decide_eq_false (by omega)
                  by_cases hfn : 1048576 < m.next
                  · have E := Lib.hid (show addE m y.id role a concept = 4 by rw [E0.out, if_pos (Or.inr hfn)])
                    have hq3 : decide ((1048576 : Int) < m.next) = true := decide_eq_true hfn
                    clear hfn
                    have m0 := HM5.out.cell 0; have m1 := HM5.out.cell 1
                    have hmlt := HM5.out.lt
                    simp at m0 m1
                    have t0 := HR5.out.frozen 0; have t1 := HR5.out.frozen 1
                    have r0 := HR5.out.cell 0; have r1 := HR5.out.cell 1
                    have hrlt := HR5.out.lt
                    simp at r0 r1
                    go_wp2_with fail
                    have hyS := (HR5.out.set_ 0 (.int .i64 0)).set_ 1 (.slice none 0 0)
                    have f0 := hyS.cell 0; have f1 := hyS.cell 1
                    simp at f0 f1
                    have HBW := Lib.hid ((HB5.out.setCell (p := ⟨w.heap.size + 1, 0, none⟩) (Nat.le_succ _) (.int .i64 0)).setCell (p := ⟨w.heap.size + 1, 1, none⟩) (Nat.le_succ _) (.slice none 0 0))
                    exact bodyPost_ret (v := .tuple #[.agg #[.int .i64 0, .slice none 0 0], .int .i64 0, .int .i64 (4)]) (by simp [results, Try.results37, go_sem, f0, f1]) rfl ⟨⟨_, rfl, Or.inl ⟨_, by decide, E.out, rfl⟩⟩, HBW.out⟩
                  · have hq3 : decide ((1048576 : Int) < m.next) = false := decide_eq_false hfn
                    have E := Lib.hid (show addE m y.id role a concept = 0 by rw [E0.out, if_neg (by omega)])
                    have hnx2 : m.next ≤ 1048576 := by omega
                    have m0 := HM5.out.cell 0; have m1 := HM5.out.cell 1
                    have hmlt := HM5.out.lt
                    simp at m0 m1
                    go_wp2_with fail
                    refine (twinA_any A c m u5 F (fun b hb => Nat.lt_of_lt_of_le (hF b hb) HB5.out.size) (HH.out.keep ENode.stays (Keep.below HB5.out hF) (fun _ h => h)) HZ'.out (by omega)).mono ?_
                    rintro _ u6 ⟨vt, rfl, l, hown, hlm, hb⟩
                    have HB6 := Lib.hid (HB5.out.trans (hb.mono HB5.out.size))
                    have HM6 := Lib.hid (HM5.out.below hb HM5.out.lt)
                    have HR6 := Lib.hid (HR5.out.below hb HR5.out.lt)
                    have HSZ := Lib.hid HB5.out.size
                    have HO := Lib.hid hown; have HLM := Lib.hid hlm
                    have hll : l.length = m.nodes.length := by rw [← hlm]; simp
                    have HLX := Lib.hid hll
                    have hlb : l.length ≤ 4096 := by omega
                    clear hll
                    have hRS := HR5.out.lt
                    have hbs := hb.size
                    obtain ⟨Av, cv, rfl⟩ := own_shape hown.row
                    clear hb hown hlm m0 m1 hmlt
                    have m0 := HM6.out.cell 0; have m1 := HM6.out.cell 1
                    have hmlt := HM6.out.lt
                    simp at m0 m1
                    go_upto_region 13 with fail
                    obtain ⟨p, hp⟩ : ∃ p, u6.heap.size = p := ⟨_, rfl⟩
                    obtain ⟨x1, hx1⟩ : ∃ z : World, u6.alloc (.cells #[.int .i64 m.next, .slice Av l.length cv] 24) = z := ⟨_, rfl⟩
                    have HX : Hid (Below u6.heap.size u6 x1) := Lib.hid (by rw [← hx1]; exact (Below.refl _ _).alloc (Nat.le_refl _) _)
                    have HP : Hid (Blk x1 p 24 #[.int .i64 m.next, .slice Av l.length cv]) := Lib.hid (by rw [← hx1, ← hp]; exact Blk.new _ _ _)
                    have HOx := Lib.hid (HO.out.below HX.out)
                    have HBx := Lib.hid (HB6.out.trans (HX.out.mono HB6.out.size))
                    have HMx := Lib.hid (HM6.out.below HX.out HM6.out.lt)
                    have HRx := Lib.hid (HR6.out.below HX.out HR6.out.lt)
                    have HPL : Hid (∀ b, some b ∈ ((Value.slice Av l.length cv).ownBlock :: allBlocks l) → b < p) := Lib.hid (fun b hb => by rw [← hp]; exact (HO.out.lt b hb).2)
                    have hpw : w.heap.size + 1 < p := by have := HR6.out.lt; omega
                    (try rw [hx1])
                    (try rw [hp])
                    clear hx1 m0 m1 hmlt HO
                    have hup : u5.heap.size ≤ p := by omega
                    clear hp
                    have p0 := HP.out.cell 0; have p1 := HP.out.cell 1
                    have z0 := HP.out.frozen 0; have z1 := HP.out.frozen 1
                    have hplt := HP.out.lt
                    simp at p0 p1
                    have m0 := HMx.out.cell 0; have m1 := HMx.out.cell 1
                    have hmlt := HMx.out.lt
                    simp at m0 m1
                    have hw1 : IntKind.i64.wrap (m.next + 1) = m.next + 1 := by rw [IntKind.wrap_i64]; omega
                    have HP2 := Lib.hid (HP.out.set_ 0 (.int .i64 (m.next + 1)))
                    have HB2x := Lib.hid (HBx.out.setCell (p := ⟨p, 0, none⟩) (by show w.heap.size ≤ p; omega) (.int .i64 (m.next + 1)))
                    have HM2x := Lib.hid (HMx.out.far (p := ⟨p, 0, none⟩) (by show w.heap.size ≠ p; omega) (.int .i64 (m.next + 1)))
                    have HR2x := Lib.hid (HRx.out.far (p := ⟨p, 0, none⟩) (by show w.heap.size + 1 ≠ p; omega) (.int .i64 (m.next + 1)))
                    have HO2x : Hid (OwnM (x1.setCell ⟨p, 0, none⟩ (.int .i64 (m.next + 1))) u5.heap.size (.slice Av l.length cv) l) := Lib.hid ⟨own_keep HOx.out.row fun b e => Below.heap_setCell _ _ _ _ (by have := HPL.out b (by rw [← e]; exact List.mem_cons_self ..); show b ≠ p; omega), fun y hy => (HOx.out.lists y hy).keep fun b hb => Below.heap_setCell _ _ _ _ (by have := HPL.out b (List.mem_cons_of_mem _ (mem_all hy hb)); show b ≠ p; omega), HOx.out.dis⟩
                    have HWE : Hid (∃ z, z = x1.setCell ⟨p, 0, none⟩ (.int .i64 (m.next + 1))) := Lib.hid ⟨_, rfl⟩
                    have hsx : p < (x1.setCell ⟨p, 0, none⟩ (.int .i64 (m.next + 1))).heap.size := by simpa using hplt
                    simp only [Array.setIfInBounds] at HP2
                    go_upto_region 15 with fail
                    obtain ⟨x2, hx2⟩ := HWE.out
                    rw [← hx2] at HP2 HB2x HM2x HR2x HO2x hsx
                    (try rw [← hx2])
                    clear hx2 HWE p0 p1 z0 z1 hplt m0 m1 hmlt HP HBx HMx HRx HOx
                    have HP2' : Hid (Blk x2 p 24 #[.int .i64 (m.next + 1), .slice Av l.length cv]) := Lib.hid (by simpa using HP2.out)
                    clear HP2
                    have HP := HP2'; have HBx := HB2x; have HMx := HM2x; have HRx := HR2x; have HOx := HO2x
                    clear HP2' HB2x HM2x HR2x HO2x
                    have p0 := HP.out.cell 0; have p1 := HP.out.cell 1
                    have z0 := HP.out.frozen 0; have z1 := HP.out.frozen 1
                    have hplt := HP.out.lt
                    simp at p0 p1
                    obtain ⟨q, hq⟩ : ∃ q, x2.heap.size = q := ⟨_, rfl⟩
                    have HQ : Hid (Blk (x2.alloc (.cells #[.int .i64 m.next, .string concept, .int .i64 0, .string ⟨#[]⟩, .slice none 0 0, .slice none 0 0, .slice none 0 0] 38)) q 38 #[.int .i64 m.next, .string concept, .int .i64 0, .string ⟨#[]⟩, .slice none 0 0, .slice none 0 0, .slice none 0 0]) := Lib.hid (by rw [← hq]; exact Blk.new _ _ _)
                    have HOq := Lib.hid (HOx.out.below ((Below.refl x2.heap.size x2).alloc (Nat.le_refl _) (.cells #[.int .i64 m.next, .string concept, .int .i64 0, .string ⟨#[]⟩, .slice none 0 0, .slice none 0 0, .slice none 0 0] 38)))
                    have HPq := Lib.hid (HP.out.alloc (.cells #[.int .i64 m.next, .string concept, .int .i64 0, .string ⟨#[]⟩, .slice none 0 0, .slice none 0 0, .slice none 0 0] 38))
                    have hqs : u5.heap.size ≤ x2.heap.size := by omega
                    have HBq := Lib.hid (HBx.out.alloc HBx.out.size (.cells #[.int .i64 m.next, .string concept, .int .i64 0, .string ⟨#[]⟩, .slice none 0 0, .slice none 0 0, .slice none 0 0] 38))
                    have HMq := Lib.hid (HMx.out.alloc (.cells #[.int .i64 m.next, .string concept, .int .i64 0, .string ⟨#[]⟩, .slice none 0 0, .slice none 0 0, .slice none 0 0] 38))
                    have HRq := Lib.hid (HRx.out.alloc (.cells #[.int .i64 m.next, .string concept, .int .i64 0, .string ⟨#[]⟩, .slice none 0 0, .slice none 0 0, .slice none 0 0] 38))
                    go_wp2_with (at_builtin; refine wpList_append_from _ rfl (.tmp 70) (.tmp 74) 22 rfl u5.heap.size 38 Try.underlying22 node_info rfl (by omega) (.slice Av l.length cv) l.length (l.flatMap LN.cells) (by first | rfl | simp [Act.eval]) HOq.out.row (some ⟨x2.heap.size, 0, none⟩) 1 1 (LN.cells (⟨newN m concept 0 ⟨#[]⟩, .slice none 0 0, .slice none 0 0, .slice none 0 0⟩ : LN)) (by first | rfl | simp [Act.eval]) rfl (by simp) (fun ad e => by cases e; rw [hq]; exact news_cells HQ.out) (fun u hu => by simp only [LN.cells, nodeCellsA, newN, List.mem_cons, List.not_mem_nil, or_false] at hu; rcases hu with rfl | rfl | rfl | rfl | rfl | rfl | rfl <;> rfl) (by unfold maxLen; omega) (by omega) (by simp; omega) ?_)
                    intro A6 c6 w6 own6 hg6 hat6
                    have hrow := fun k (e : (Value.slice Av l.length cv).ownBlock = some k) => HPL.out k (by rw [← e]; exact List.mem_cons_self ..)
                    have hrow2 := fun k (e : (Value.slice Av l.length cv).ownBlock = some k) => (HOq.out.row.lt k e).1
                    have HW6 := Lib.hid (HOq.out.push (x := (⟨newN m concept 0 ⟨#[]⟩, .slice none 0 0, .slice none 0 0, .slice none 0 0⟩ : LN)) ⟨World.ownsRow_nil _ _ _ _, OwnI.nil _ _, World.ownsRow_nil _ _ _ _⟩ (fun b => by simp [LN.blocks, Value.ownBlock]) (fun b hb => by simp [LN.blocks, Value.ownBlock] at hb) own6 hg6 (by rcases hat6 with e | e; exact .inl e; exact .inr (by rw [e]; simp [hq])))
                    have HB6 := Lib.hid (HBq.out.grown hg6 (by simp; have := HBx.out.size; omega) (fun k e => by have := hrow2 k e; have := HSZ.out; omega))
                    have HP6 := Lib.hid (HPq.out.grown hg6 (fun e => by have := hrow _ e.symm; omega))
                    have HM6 := Lib.hid (HMq.out.grown hg6 (fun e => by have := hrow2 _ e.symm; have := HSZ.out; omega))
                    have HR6 := Lib.hid (HRq.out.grown hg6 (fun e => by have := hrow2 _ e.symm; omega))
                    have HAT : Hid (∀ b, some b ∈ ((Value.slice A6 (l.length + 1) c6).ownBlock :: allBlocks (l ++ [(⟨newN m concept 0 ⟨#[]⟩, .slice none 0 0, .slice none 0 0, .slice none 0 0⟩ : LN)])) → b ≠ p) := Lib.hid (fun b hb e => by
                      subst e
                      rcases List.mem_cons.1 hb with hb | hb
                      · rcases hat6 with e | e
                        · have := hrow b (by rw [← e]; exact hb.symm); omega
                        · have h2 := hb.trans e
                          injection h2 with h2
                          (try simp at h2)
                          omega
                      · rw [all_append, List.mem_append] at hb
                        rcases hb with hb | hb
                        · have := HPL.out b (List.mem_cons_of_mem _ hb); omega
                        · simp [allBlocks, LN.blocks, Value.ownBlock] at hb)
                    have hs6 := hg6.size
                    clear own6 hg6 hat6 hrow hrow2 p0 p1 z0 z1
                    have p0 := HP6.out.cell 0; have p1 := HP6.out.cell 1
                    have z0 := HP6.out.frozen 0; have z1 := HP6.out.frozen 1
                    have hplt6 := HP6.out.lt
                    simp at p0 p1
                    have HP7 := Lib.hid (HP6.out.set_ 1 (.slice A6 (l.length + 1) c6))
                    have HB7 := Lib.hid (HB6.out.setCell (p := ⟨p, 1, none⟩) (by show w.heap.size ≤ p; omega) (.slice A6 (l.length + 1) c6))
                    have HM7 := Lib.hid (HM6.out.far (p := ⟨p, 1, none⟩) (by show w.heap.size ≠ p; omega) (.slice A6 (l.length + 1) c6))
                    have HR7 := Lib.hid (HR6.out.far (p := ⟨p, 1, none⟩) (by show w.heap.size + 1 ≠ p; omega) (.slice A6 (l.length + 1) c6))
                    have HO7 : Hid (OwnM (w6.setCell ⟨p, 1, none⟩ (.slice A6 (l.length + 1) c6)) u5.heap.size (.slice A6 (l.length + 1) c6) (l ++ [(⟨newN m concept 0 ⟨#[]⟩, .slice none 0 0, .slice none 0 0, .slice none 0 0⟩ : LN)])) := Lib.hid ⟨own_keep HW6.out.row fun b e => Below.heap_setCell _ _ _ _ (HAT.out b (by rw [← e]; exact List.mem_cons_self ..)), fun y hy => (HW6.out.lists y hy).keep fun b hb => Below.heap_setCell _ _ _ _ (HAT.out b (List.mem_cons_of_mem _ (mem_all hy hb))), HW6.out.dis⟩
                    have HWE : Hid (∃ z, z = w6.setCell ⟨p, 1, none⟩ (.slice A6 (l.length + 1) c6)) := Lib.hid ⟨_, rfl⟩
                    have hs7 : u5.heap.size ≤ (w6.setCell ⟨p, 1, none⟩ (.slice A6 (l.length + 1) c6)).heap.size := by simp at hs6 ⊢; omega
                    go_upto_region 16 with fail
                    obtain ⟨x3, hx3⟩ := HWE.out
                    rw [← hx3] at HP7 HB7 HM7 HR7 HO7 hs7
                    (try rw [← hx3])
                    clear hx3 HWE p0 p1 z0 z1 hplt6 HP6 HB6 HM6 HR6 HW6 hs6 HQ HOq HPq HBq HMq HRq hq HP HBx HMx HRx HOx
                    have HP8 : Hid (Blk x3 p 24 #[.int .i64 (m.next + 1), .slice A6 (l.length + 1) c6]) := Lib.hid (by simpa using HP7.out)
                    clear HP7
                    have hll := HLX.out
                    have HMAP : Hid ((l ++ [(⟨newN m concept 0 ⟨#[]⟩, .slice none 0 0, .slice none 0 0, .slice none 0 0⟩ : LN)]).map LN.n = m.nodes ++ [newN m concept 0 ⟨#[]⟩]) := Lib.hid (by rw [List.map_append, HLM.out]; rfl)
                    have HLL := Lib.hid (show (l ++ [(⟨newN m concept 0 ⟨#[]⟩, .slice none 0 0, .slice none 0 0, .slice none 0 0⟩ : LN)]).length = l.length + 1 by simp)
                    have p0 := HP8.out.cell 0; have p1 := HP8.out.cell 1
                    have hplt := HP8.out.lt
                    simp at p0 p1
                    have HSR := Lib.hid (more_srt (n0 := newN m concept 0 ⟨#[]⟩) HCM.out hnx2 rfl)
                    have HCL := Lib.hid (more_closed (n0 := newN m concept 0 ⟨#[]⟩) HCM.out rfl)
                    have HKR := Lib.hid (more_kids (n0 := newN m concept 0 ⟨#[]⟩) (fun x hx => (HZ.out x hx).2.2) rfl)
                    obtain ⟨Yl, hYl⟩ : ∃ Yl, (l ++ [(⟨newN m concept 0 ⟨#[]⟩, .slice none 0 0, .slice none 0 0, .slice none 0 0⟩ : LN)])[jp]? = some Yl := ⟨_, List.getElem?_eq_getElem (by rw [HLL.out]; omega)⟩
                    have HYl := Lib.hid hYl
                    have HYn : Hid (Yl.n = y) := Lib.hid (by
                      have h1 : ((l ++ [(⟨newN m concept 0 ⟨#[]⟩, .slice none 0 0, .slice none 0 0, .slice none 0 0⟩ : LN)]).map LN.n)[jp]? = some Yl.n := by rw [List.getElem?_map, hYl]; rfl
                      rw [HMAP.out, List.getElem?_append_left hjp, List.getElem?_eq_getElem hjp, HYE.out] at h1
                      injection h1 with h1; exact h1.symm)
                    clear hYl
                    have HHG := Lib.hid (hangKid_any (m.next + 1) (.slice A6 (l.length + 1) c6) (l ++ [(⟨newN m concept 0 ⟨#[]⟩, .slice none 0 0, .slice none 0 0, .slice none 0 0⟩ : LN)]) x3 u5.heap.size _ (fun _ h => h) HO7.out hs7 (by rw [HMAP.out]; exact HSR.out) (by rw [HMAP.out]; exact HKR.out) (by rw [HLL.out]; omega) l.length (by rw [HLL.out]; omega) (⟨newN m concept 0 ⟨#[]⟩, .slice none 0 0, .slice none 0 0, .slice none 0 0⟩ : LN) (by simp) jp (by rw [HLL.out]; omega) Yl (by have h9 := HYl.out; rw [List.getElem?_eq_getElem (by rw [HLL.out]; omega)] at h9; injection h9) (by omega) role a ha (by rw [HYn.out, HMAP.out, hll, set_last]; exact more_closed (n0 := newN m concept y.id role) HCM.out rfl) (i0 : Int) (by rw [HYn.out, HMAP.out, hll, set_last, show ({ newN m concept 0 ⟨#[]⟩ with parent := y.id, role := role } : ANode) = newN m concept y.id role from rfl, more_inL HCM.out hnx2 rfl HYm.out]; exact HSPI.out) (by rw [HYn.out]; exact HK4.out y HYm.out))
                    have HHG2 := HHG.out
                    rw [show ((⟨newN m concept 0 ⟨#[]⟩, .slice none 0 0, .slice none 0 0, .slice none 0 0⟩ : LN)).n.id = m.next from rfl, HYn.out] at HHG2
                    have HHG3 := Lib.hid HHG2
                    clear HHG HHG2 hll
                    go_wp2_with fail
                    refine HHG3.out.mono ?_
                    rintro _ x5 ⟨rfl, l2, hown2, hmap2, hk5⟩
                    have HB10 := Lib.hid (HB7.out.trans (hk5.toBelow (B := w.heap.size) HB7.out.size (fun b hb => by have := (HO7.out.lt b hb).1; have := HSZ.out; omega)))
                    have HRA := Lib.hid (hk5.blk HR7.out (fun hb => by have := (HO7.out.lt _ hb).1; omega))
                    have HPA := Lib.hid (hk5.blk HP8.out (fun hb => HAT.out _ hb rfl))
                    have HMA := Lib.hid (hk5.blk HM7.out (fun hb => by have := (HO7.out.lt _ hb).1; omega))
                    have HOW2 := Lib.hid hown2
                    have HMAP2 := Lib.hid hmap2
                    clear hown2 hmap2 hk5 p0 p1 hplt HHG3
                    have p0 := HPA.out.cell 0; have p1 := HPA.out.cell 1
                    have hplt := HPA.out.lt
                    simp at p0 p1
                    have t0 := HRA.out.frozen 0; have t1 := HRA.out.frozen 1
                    have r0 := HRA.out.cell 0; have r1 := HRA.out.cell 1
                    have hrlt := HRA.out.lt
                    simp at r0 r1
                    go_wp2_with fail
                    have HRZ := HRA; have HBZ := HB10; have HOZ := HOW2
                    have hyS := (HRZ.out.set_ 0 (.int .i64 (m.next + 1))).set_ 1 (.slice A6 (l.length + 1) c6)
                    have f0 := hyS.cell 0; have f1 := hyS.cell 1
                    simp at f0 f1
                    have HBW := Lib.hid ((HBZ.out.setCell (p := ⟨w.heap.size + 1, 0, none⟩) (Nat.le_succ _) (.int .i64 (m.next + 1))).setCell (p := ⟨w.heap.size + 1, 1, none⟩) (Nat.le_succ _) (.slice A6 (l.length + 1) c6))
                    refine bodyPost_ret (v := .tuple #[.agg #[.int .i64 (m.next + 1), .slice A6 (l.length + 1) c6], .int .i64 m.next, .int .i64 0]) (by simp [results, Try.results37, go_sem, f0, f1]) rfl ⟨⟨_, rfl, Or.inr ⟨E.out, _, l2, rfl, ?_, ?_⟩⟩, HBW.out⟩
                    · refine (HOZ.out.keep (fun b h1 _ => ?_)).weaken HSZ.out
                      exact (Below.heap_setCell _ _ _ _ (by show b ≠ w.heap.size + 1; omega)).trans (Below.heap_setCell _ _ _ _ (by show b ≠ w.heap.size + 1; omega))
                    · exact Or.inr ⟨by omega, jp, hjp, by rw [HYE.out], i0, by rw [HYE.out]; exact HSPI.out, by rw [HMAP2.out, HMAP.out, HYE.out]; unfold addKid; rw [HLX.out, set_last, set_old _ _ _ hjp]; rfl⟩
          · have E := Lib.hid (addE_node (role := role) (a := a) (concept := concept) HCM.out HWC.out hp0 HWR2.out (by rw [hj2]; omega))
            have HAT2 := Lib.hid hj2
            clear hj1 hj2
            go_enter Try.func37, Try.ntmps37
            go_wp2_with fail
            (try rw [HU0.out])
            refine (HC2.out).mono ?_
            rintro _ u1 ⟨rfl, hb⟩
            have HB1 := Lib.hid (HB0.out.trans (hb.mono HB0.out.size))
            have HM1 := Lib.hid (HM0.out.below hb HM0.out.lt)
            have HR1 := Lib.hid (HR0.out.below hb HR0.out.lt)
            clear hb
            go_wp2_with fail
            refine (aword_is hcs HWC.out u1).mono ?_
            rintro _ u2 ⟨rfl, hb⟩
            have HB2 := Lib.hid (HB1.out.trans (hb.mono HB1.out.size))
            have HM2 := Lib.hid (HM1.out.below hb HM1.out.lt)
            have HR2 := Lib.hid (HR1.out.below hb HR1.out.lt)
            clear hb
            go_wp2_with fail
            refine (aword_is hrs HWR2.out u2).mono ?_
            rintro _ u3 ⟨rfl, hb⟩
            have HB3 := Lib.hid (HB2.out.trans (hb.mono HB2.out.size))
            have HM3 := Lib.hid (HM2.out.below hb HM2.out.lt)
            have HR3 := Lib.hid (HR2.out.below hb HR2.out.lt)
            clear hb
            have m0 := HM3.out.cell 0; have m1 := HM3.out.cell 1
            have hmlt := HM3.out.lt
            simp at m0 m1
            go_wp2_with fail
            refine (int_is HAT2.out (place_any A c m.next parent m.nodes u3 F (fun b hb => Nat.lt_of_lt_of_le (hF b hb) HB3.out.size) (HH.out.keep ENode.stays (Keep.below HB3.out hF) (fun _ h => h)) HS.out hpr (by omega))).mono ?_
            rintro _ u4 ⟨rfl, hb⟩
            have HB4 := Lib.hid (HB3.out.trans (hb.mono HB3.out.size))
            have HM4 := Lib.hid (HM3.out.below hb HM3.out.lt)
            have HR4 := Lib.hid (HR3.out.below hb HR3.out.lt)
            clear hb
            clear m0 m1 hmlt
            have t0 := HR4.out.frozen 0; have t1 := HR4.out.frozen 1
            have r0 := HR4.out.cell 0; have r1 := HR4.out.cell 1
            have hrlt := HR4.out.lt
            simp at r0 r1
            go_wp2_with fail
            have hyS := (HR4.out.set_ 0 (.int .i64 0)).set_ 1 (.slice none 0 0)
            have f0 := hyS.cell 0; have f1 := hyS.cell 1
            simp at f0 f1
            have HBW := Lib.hid ((HB4.out.setCell (p := ⟨w.heap.size + 1, 0, none⟩) (Nat.le_succ _) (.int .i64 0)).setCell (p := ⟨w.heap.size + 1, 1, none⟩) (Nat.le_succ _) (.slice none 0 0))
            exact bodyPost_ret (v := .tuple #[.agg #[.int .i64 0, .slice none 0 0], .int .i64 0, .int .i64 (20)]) (by simp [results, Try.results37, go_sem, f0, f1]) rfl ⟨⟨_, rfl, Or.inl ⟨_, by decide, E.out, rfl⟩⟩, HBW.out⟩
  · have HC2 := Lib.hid (int_is (checkI_no hc) HC.out)
    have E := Lib.hid (addE_check (parent := parent) (role := role) (a := a) (concept := concept) hc)
    clear hc HC
    go_enter Try.func37, Try.ntmps37
    go_wp2_with fail
    (try rw [HU0.out])
    refine (HC2.out).mono ?_
    rintro _ u1 ⟨rfl, hb⟩
    have HB1 := Lib.hid (HB0.out.trans (hb.mono HB0.out.size))
    have HM1 := Lib.hid (HM0.out.below hb HM0.out.lt)
    have HR1 := Lib.hid (HR0.out.below hb HR0.out.lt)
    clear hb
    have t0 := HR1.out.frozen 0; have t1 := HR1.out.frozen 1
    have r0 := HR1.out.cell 0; have r1 := HR1.out.cell 1
    have hrlt := HR1.out.lt
    simp at r0 r1
    go_wp2_with fail
    have hyS := (HR1.out.set_ 0 (.int .i64 0)).set_ 1 (.slice none 0 0)
    have f0 := hyS.cell 0; have f1 := hyS.cell 1
    simp at f0 f1
    have HBW := Lib.hid ((HB1.out.setCell (p := ⟨w.heap.size + 1, 0, none⟩) (Nat.le_succ _) (.int .i64 0)).setCell (p := ⟨w.heap.size + 1, 1, none⟩) (Nat.le_succ _) (.slice none 0 0))
    exact bodyPost_ret (v := .tuple #[.agg #[.int .i64 0, .slice none 0 0], .int .i64 0, .int .i64 (29)]) (by simp [results, Try.results37, go_sem, f0, f1]) rfl ⟨⟨_, rfl, Or.inl ⟨_, by decide, E.out, rfl⟩⟩, HBW.out⟩
end Go.Proofs.Ytmafhaadcjgcbaa
end
section
/- arena.Remove -/
namespace Go.Proofs.Ytmafhaadcjgcbaa
open Go Go.RowKit

theorem KeepO.ownI {O : Nat → Prop} {a w : World} {base : Nat} {v : Value} {l : List Int} (h : KeepO O a w) (ho : OwnI a base v l) (hO : ∀ b, v.ownBlock = some b → ¬ O b) : OwnI w base v l := own_keep ho (fun b e => h.block b (ho.lt b e).2 (hO b e))
set_option maxRecDepth 100000 in
set_option maxHeartbeats 8000000 in
theorem removeA_any (A : Option Addr) (c : Nat) (m : AModel) (w : World) (F : Nat → Prop) (hF : ∀ b, F b → b < w.heap.size) (h : RowOf 7 ENode w F A m.nodes) (hz : ∀ x ∈ m.nodes, NodeOK x) (hz' : ∀ x ∈ m.nodes, LensOK x) (hl : m.nodes.length ≤ 9223372036854775807) (id : Int) (hid : InR id) :
    Calls Try.prog 51 #[.agg #[.int .i64 m.next, .slice A m.nodes.length c], .int .i64 id] w fun e w' => (∃ v, e = .returned v ∧ ResOwn w' w.heap.size m.next (removeE m id) (removeL m id) v) ∧ Below w.heap.size w w' := by
  obtain ⟨EE, hEE⟩ : ∃ EE, removeE m id = EE := ⟨_, rfl⟩
  obtain ⟨LL, hLL⟩ : ∃ LL, removeL m id = LL := ⟨_, rfl⟩
  rw [hEE, hLL]
  have HEE := Lib.hid hEE; have HLL := Lib.hid hLL
  clear hEE hLL
  have HH := Lib.hid h; have HZ := Lib.hid hz; have HZ' := Lib.hid hz'; have HLB := Lib.hid hl
  obtain ⟨n, hn⟩ : ∃ n, m.nodes.length = n := ⟨_, rfl⟩
  have HN := Lib.hid hn
  rw [hn] at hl ⊢
  clear h hz hz' hn
  obtain ⟨u0, hu0⟩ : ∃ u : World, (w.alloc (.cells #[.int .i64 m.next, .slice A n c] 24)).alloc (.cells #[.int .i64 0, .slice none 0 0] 24) = u := ⟨_, rfl⟩
  have HM : Hid (Blk u0 w.heap.size 24 #[.int .i64 m.next, .slice A n c]) := Lib.hid (by rw [← hu0]; exact (Blk.new w _ _).alloc _)
  have HR : Hid (Blk u0 (w.heap.size + 1) 24 #[.int .i64 0, .slice none 0 0]) := Lib.hid (by rw [← hu0]; exact Blk.new' (by simp))
  have hb : Below w.heap.size w u0 := by rw [← hu0]; exact ((Below.refl w.heap.size w).alloc (Nat.le_refl _) _).alloc (by simp) _
  have HU0 := Lib.hid hu0
  clear hu0
  have HB_w : Hid (Below w.heap.size w u0) := Lib.hid hb
  clear hb
  have HC := Lib.hid (check_any A c m u0 F (fun b hb => Nat.lt_of_lt_of_le (hF b hb) HB_w.out.size) (HH.out.keep ENode.stays (Keep.below HB_w.out hF) (fun _ h => h)) HZ.out HLB.out)
  rw [HN.out] at HC
  have HCC : Hid (Calls Try.prog 13 #[.agg #[.int .i64 m.next, .slice A n c]] u0 fun e w' => e = .returned (.int .i64 (checkI m)) ∧ Below u0.heap.size u0 w') := HC
  clear HC
  by_cases hc : CheckM m
  rotate_left 1
  · have HC2 := Lib.hid (int_is (checkI_no hc) HCC.out)
    have E := Lib.hid (show EE = 29 from HEE.out.symm.trans (removeE_check hc))
    clear hc HCC
    go_enter Try.func51, Try.ntmps51
    go_wp2_with fail
    (try rw [HU0.out])
    refine HC2.out.mono ?_
    rintro _ u1 ⟨rfl, hb⟩
    replace HB_w : Hid (Below w.heap.size w u1) := Lib.hid (HB_w.out.trans (hb.mono HB_w.out.size))
    replace HM := Lib.hid (HM.out.below hb HM.out.lt)
    replace HR := Lib.hid (HR.out.below hb HR.out.lt)
    clear hb HU0 HC2
    have t0 := HR.out.frozen 0; have t1 := HR.out.frozen 1
    have r0 := HR.out.cell 0; have r1 := HR.out.cell 1
    have hrlt := HR.out.lt
    simp at r0 r1
    go_wp2_with fail
    have hyS := (HR.out.set_ 0 (.int .i64 0)).set_ 1 (.slice none 0 0)
    have f0 := hyS.cell 0; have f1 := hyS.cell 1
    simp at f0 f1
    have HBW := Lib.hid ((HB_w.out.setCell (p := ⟨w.heap.size + 1, 0, none⟩) (by show w.heap.size ≤ w.heap.size + 1; omega) (.int .i64 0)).setCell (p := ⟨w.heap.size + 1, 1, none⟩) (by show w.heap.size ≤ w.heap.size + 1; omega) (.slice none 0 0))
    exact bodyPost_ret (v := .tuple #[.agg #[.int .i64 0, .slice none 0 0], .int .i64 (29)]) (by simp [results, Try.results51, go_sem, f0, f1]) rfl ⟨⟨_, rfl, Or.inl ⟨by rw [E.out]; decide, by rw [E.out]⟩⟩, HBW.out⟩
  have HC2 := Lib.hid (int_is (checkI_yes hc) HCC.out)
  have HCM := Lib.hid hc
  have HS := Lib.hid hc.1.srtB
  have hl4 : n ≤ 4096 := by rw [← HN.out]; exact hc.1.1.2.2
  have HRK : Hid (∀ x ∈ m.nodes, ∀ k ∈ x.kids, InR k) := Lib.hid (fun x hx => (HZ.out x hx).2.2)
  clear hc HCC HLB
  rcases atI_cases m.nodes id with ⟨j, hj, hj1, hj2⟩ | ⟨hj1, hj2⟩
  rotate_left 1
  · have HAT := Lib.hid hj2
    have E := Lib.hid (show EE = 20 from HEE.out.symm.trans (removeE_node HCM.out (by rw [hj2]; omega)))
    clear hj1 hj2
    go_enter Try.func51, Try.ntmps51
    go_wp2_with fail
    (try rw [HU0.out])
    refine HC2.out.mono ?_
    rintro _ u1 ⟨rfl, hb⟩
    replace HB_w : Hid (Below w.heap.size w u1) := Lib.hid (HB_w.out.trans (hb.mono HB_w.out.size))
    replace HM := Lib.hid (HM.out.below hb HM.out.lt)
    replace HR := Lib.hid (HR.out.below hb HR.out.lt)
    clear hb HU0 HC2
    have HMc0 := HM.out.cell 0
    have HMc1 := HM.out.cell 1
    have HMlt := HM.out.lt
    simp at HMc0 HMc1
    have HPL := Lib.hid (place_any A c m.next id m.nodes u1 F (fun b hb => Nat.lt_of_lt_of_le (hF b hb) HB_w.out.size) (HH.out.keep ENode.stays (Keep.below HB_w.out hF) (fun _ h => h)) HS.out hid (by rw [HN.out]; omega))
    rw [HAT.out, HN.out] at HPL
    go_wp2_with fail
    refine (HPL.out).mono ?_
    rintro _ u2 ⟨rfl, hb⟩
    replace HB_w : Hid (Below w.heap.size w u2) := Lib.hid (HB_w.out.trans (hb.mono HB_w.out.size))
    replace HM := Lib.hid (HM.out.below hb HM.out.lt)
    replace HR := Lib.hid (HR.out.below hb HR.out.lt)
    clear hb
    clear HPL HMc0 HMc1 HMlt
    have g4 : decide ((-1 : Int) < 0) = true := by decide
    have t0 := HR.out.frozen 0; have t1 := HR.out.frozen 1
    have r0 := HR.out.cell 0; have r1 := HR.out.cell 1
    have hrlt := HR.out.lt
    simp at r0 r1
    go_wp2_with fail
    have hyS := (HR.out.set_ 0 (.int .i64 0)).set_ 1 (.slice none 0 0)
    have f0 := hyS.cell 0; have f1 := hyS.cell 1
    simp at f0 f1
    have HBW := Lib.hid ((HB_w.out.setCell (p := ⟨w.heap.size + 1, 0, none⟩) (by show w.heap.size ≤ w.heap.size + 1; omega) (.int .i64 0)).setCell (p := ⟨w.heap.size + 1, 1, none⟩) (by show w.heap.size ≤ w.heap.size + 1; omega) (.slice none 0 0))
    exact bodyPost_ret (v := .tuple #[.agg #[.int .i64 0, .slice none 0 0], .int .i64 (20)]) (by simp [results, Try.results51, go_sem, f0, f1]) rfl ⟨⟨_, rfl, Or.inl ⟨by rw [E.out]; decide, by rw [E.out]⟩⟩, HBW.out⟩
  have HAT := Lib.hid hj2
  have g4 : decide ((j : Int) < 0) = false := decide_eq_false (by omega)
  obtain ⟨x, hx⟩ : ∃ x, m.nodes[j] = x := ⟨_, rfl⟩
  have HX : Hid (x ∈ m.nodes ∧ x.id = id) := Lib.hid ⟨by rw [← hx]; exact List.getElem_mem hj, by rw [← hx]; exact hj1⟩
  have HXO : Hid (nodeOf m id = x) := Lib.hid (by rw [← HX.out.2]; exact HCM.out.tree.nodeOf HX.out.1)
  have E := Lib.hid (show EE = 0 from HEE.out.symm.trans (removeE_ok HCM.out (by rw [hj2]; omega)))
  obtain ⟨LB, hLB⟩ : ∃ L, belowL m id = L := ⟨_, rfl⟩
  have HLBE := Lib.hid hLB
  have hlb : LB.length ≤ 4096 := by have := HCM.out.tree.below_len HX.out.1; rw [HX.out.2, hLB, HN.out] at this; omega
  clear hj1 hj2 hx hLB
  go_enter Try.func51, Try.ntmps51
  go_wp2_with fail
  (try rw [HU0.out])
  refine HC2.out.mono ?_
  rintro _ u1 ⟨rfl, hb⟩
  replace HB_w : Hid (Below w.heap.size w u1) := Lib.hid (HB_w.out.trans (hb.mono HB_w.out.size))
  replace HM := Lib.hid (HM.out.below hb HM.out.lt)
  replace HR := Lib.hid (HR.out.below hb HR.out.lt)
  clear hb HU0 HC2
  have HMc0 := HM.out.cell 0
  have HMc1 := HM.out.cell 1
  have HMlt := HM.out.lt
  simp at HMc0 HMc1
  have HPL := Lib.hid (place_any A c m.next id m.nodes u1 F (fun b hb => Nat.lt_of_lt_of_le (hF b hb) HB_w.out.size) (HH.out.keep ENode.stays (Keep.below HB_w.out hF) (fun _ h => h)) HS.out hid (by rw [HN.out]; omega))
  rw [HAT.out, HN.out] at HPL
  go_wp2_with fail
  refine (HPL.out).mono ?_
  rintro _ u2 ⟨rfl, hb⟩
  replace HB_w : Hid (Below w.heap.size w u2) := Lib.hid (HB_w.out.trans (hb.mono HB_w.out.size))
  replace HM := Lib.hid (HM.out.below hb HM.out.lt)
  replace HR := Lib.hid (HR.out.below hb HR.out.lt)
  clear hb
  clear HPL HMc0 HMc1 HMlt
  have HSM : Hid (∀ w', Blk w' w.heap.size 24 #[.int .i64 m.next, .slice A n c] → w'.cell? ⟨w.heap.size, 0, none⟩ = some (.int .i64 m.next) ∧ w'.cell? ⟨w.heap.size, 1, none⟩ = some (.slice A n c)) := Lib.hid (fun w' h => by
    have a := h.cell 0; have b := h.cell 1
    simp at a b
    exact ⟨a, b⟩)
  have HUD := Lib.hid (fun (w' : World) (hb : Below w.heap.size w w') => under_any A c m w' F (fun b hb2 => Nat.lt_of_lt_of_le (hF b hb2) hb.size) (HH.out.keep ENode.stays (Keep.below hb hF) (fun _ h => h)) HCM.out.tree HS.out HRK.out (by rw [HN.out]; omega) x HX.out.1)
  rw [HN.out, HX.out.2, HLBE.out] at HUD
  have HMc0 := HM.out.cell 0
  have HMc1 := HM.out.cell 1
  have HMlt := HM.out.lt
  simp at HMc0 HMc1
  go_wp2_with fail
  refine (HUD.out _ HB_w.out).mono ?_
  rintro _ u3 ⟨vl, rfl, hown, hb⟩
  obtain ⟨Al, cl, rfl⟩ := hown.shape
  have HOI : Hid (OwnI u3 (w.heap.size + 2) (.slice Al LB.length cl) LB) := Lib.hid (hown.weaken (by have := HR.out.lt; omega))
  replace HB_w : Hid (Below w.heap.size w u3) := Lib.hid (HB_w.out.trans (hb.mono HB_w.out.size))
  replace HM := Lib.hid (HM.out.below hb HM.out.lt)
  replace HR := Lib.hid (HR.out.below hb HR.out.lt)
  clear hown hb HUD HSM HMc0 HMc1 HMlt
  have HOI1 := Lib.hid (OwnI.alloc HOI.out (.cells #[.int .i64 id] 3))
  have HR3 := HR.out.lt
  go_wp2_with (at_builtin; refine wpList_pushI rfl (.tmp 19) (.tmp 21) rfl ?a1 HOI1.out id u3.heap.size ?a2 ?a3 ?a4 ?a5 ?a6)
  case a1 => rfl
  case a2 => rfl
  case a3 => exact Blk.new _ _ _
  case a4 => omega
  case a5 => simp; omega
  case a6 =>
    intro A2 c2 u4 own2 hg2 _
    have hga : Below u3.heap.size u3 (u3.alloc (.cells #[.int .i64 id] 3)) := (Below.refl _ _).alloc (Nat.le_refl _) _
    replace HB_w : Hid (Below w.heap.size w u4) := Lib.hid ((HB_w.out.trans (hga.mono HB_w.out.size)).grown hg2 (by have := HB_w.out.size; have := hga.size; omega) (fun k e => by have := (HOI.out.lt k e).1; omega))
    replace HM := Lib.hid ((HM.out.below hga HM.out.lt).grown hg2 (fun e => by have := (HOI.out.lt _ e.symm).1; omega))
    replace HR := Lib.hid ((HR.out.below hga HR.out.lt).grown hg2 (fun e => by have := (HOI.out.lt _ e.symm).1; omega))
    have HOA := Lib.hid own2
    have HBO : Hid (Below u4.heap.size u4 u4) := Lib.hid (Below.refl _ _)
    clear own2 hg2 hga HOI HOI1 HR3
    obtain ⟨g, hgs⟩ : ∃ g, u4.heap.size = g := ⟨_, rfl⟩
    have HGG := Lib.hid hgs
    clear hgs
    obtain ⟨u1, hu⟩ : ∃ u : World, u4.alloc (.cells #[.slice A2 (LB.length + 1) c2] 35) = u := ⟨_, rfl⟩
    have HBU : Below u4.heap.size u4 u1 := by rw [← hu]; exact (Below.refl _ _).alloc (Nat.le_refl _) _
    have HG : Hid (Blk u1 u4.heap.size 35 #[.slice A2 (LB.length + 1) c2]) := Lib.hid (by rw [← hu]; exact Blk.new _ _ _)
    have HUE := Lib.hid hu
    clear hu
    replace HB_w : Hid (Below w.heap.size w u1) := Lib.hid (HB_w.out.trans (HBU.mono HB_w.out.size))
    replace HM := Lib.hid (HM.out.below HBU HM.out.lt)
    replace HR := Lib.hid (HR.out.below HBU HR.out.lt)
    clear HBU
    have hown : OwnI u1 (w.heap.size + 2) (.slice A2 (LB.length + 1) c2) (LB ++ [id]) := OwnI.below HOA.out (show Below u4.heap.size u4 u1 from by rw [← HUE.out]; exact (Below.refl _ _).alloc (Nat.le_refl _) _)
    have HNE : Hid (∀ k, (Value.slice A2 (LB.length + 1) c2).ownBlock = some k → k ≠ g) := Lib.hid (fun k e => by have := (HOA.out.lt k e).2; have := HGG.out; omega)
    rw [HGG.out] at HG
    have hlen : (LB ++ [id]).length = LB.length + 1 := by simp
    obtain ⟨GS, hGS⟩ : ∃ z, (LB ++ [id]).mergeSort (fun x y => decide (x ≤ y)) = z := ⟨_, rfl⟩
    have HSO := Lib.hid (sortOwn_any (.slice A2 (LB.length + 1) c2) (LB ++ [id]) u1 (w.heap.size + 2) hown (by rw [hlen]; omega))
    have HOL := Lib.hid hown.lt
    rw [hGS] at HSO
    have HGSM : Hid (∀ k, k ∈ GS ↔ k ∈ LB ++ [id]) := Lib.hid (fun k => by rw [← hGS, List.mem_mergeSort])
    have HGSS : Hid (GS.Pairwise (· ≤ ·)) := Lib.hid (by
      rw [← hGS]
      exact (List.pairwise_mergeSort (le := fun x y : Int => decide (x ≤ y)) (fun a b c h1 h2 => by simp at *; omega) (fun a b => by simp; omega) _).imp (fun h => by simpa using h))
    have hGSl : GS.length = LB.length + 1 := by rw [← hGS, List.length_mergeSort, hlen]
    clear hown hGS hlen HOA HBO
    go_upto_region 6 with fail
    rw [HUE.out, HGG.out]
    clear HUE HGG
    have HGc0 := HG.out.cell 0
    have HGlt := HG.out.lt
    simp at HGc0
    go_wp2_with fail
    refine HSO.out.mono ?_
    rintro _ u5 ⟨rfl, hown, hg⟩
    have HG4 := Lib.hid (HG.out.grown hg (fun e => HNE.out _ e.symm rfl))
    replace HM := Lib.hid (HM.out.grown hg (fun e => by have := (HOL.out _ e.symm).1; omega))
    replace HR := Lib.hid (HR.out.grown hg (fun e => by have := (HOL.out _ e.symm).1; omega))
    replace HB_w : Hid (Below w.heap.size w u5) := Lib.hid (HB_w.out.grown hg HB_w.out.size (fun k e => by have := (HOL.out k e).1; omega))
    have HOG := Lib.hid hown
    clear hown hg HSO HOL HGc0 HGlt HG
    have HG := HG4
    clear HG4
    have HMc0 := HM.out.cell 0
    have HMc1 := HM.out.cell 1
    have HMlt := HM.out.lt
    simp at HMc0 HMc1
    have HTW := Lib.hid (twinA_any A c m u5 F (fun b hb => Nat.lt_of_lt_of_le (hF b hb) HB_w.out.size) (HH.out.keep ENode.stays (Keep.below HB_w.out hF) (fun _ h => h)) HZ'.out (by rw [HN.out]; omega))
    rw [HN.out] at HTW
    go_wp2_with fail
    refine HTW.out.mono ?_
    rintro _ ut ⟨vt, rfl, l, hown, hlm, hb⟩
    have HBASE : Hid (w.heap.size + 2 ≤ u5.heap.size ∧ g < u5.heap.size ∧ ∀ k, (Value.slice A2 (LB.length + 1) c2).ownBlock = some k → k < u5.heap.size) := Lib.hid ⟨by have := HR.out.lt; omega, HG.out.lt, fun k e => (HOG.out.lt k e).2⟩
    replace HOG := Lib.hid (OwnI.below HOG.out hb)
    replace HB_w : Hid (Below w.heap.size w ut) := Lib.hid (HB_w.out.trans (hb.mono HB_w.out.size))
    replace HM := Lib.hid (HM.out.below hb HM.out.lt)
    replace HR := Lib.hid (HR.out.below hb HR.out.lt)
    replace HG := Lib.hid (HG.out.below hb HG.out.lt)
    have hll : l.length = n := by rw [← HN.out, ← hlm, List.length_map]
    obtain ⟨At, ct, rfl⟩ := own_shape hown.row
    rw [hll] at hown ⊢
    have HO := Lib.hid hown; have HLM := Lib.hid hlm; have HBT : Hid (u5.heap.size ≤ ut.heap.size) := Lib.hid hb.size
    clear hb hown hlm HTW HMc0 HMc1 HMlt
    obtain ⟨u2, hu⟩ : ∃ u : World, ut.alloc (.cells #[.int .i64 m.next, .slice At n ct] 24) = u := ⟨_, rfl⟩
    have HBU : Below ut.heap.size ut u2 := by rw [← hu]; exact (Below.refl _ _).alloc (Nat.le_refl _) _
    have HP : Hid (Blk u2 ut.heap.size 24 #[.int .i64 m.next, .slice At n ct]) := Lib.hid (by rw [← hu]; exact Blk.new _ _ _)
    have HUE := Lib.hid hu
    clear hu
    replace HB_w : Hid (Below w.heap.size w u2) := Lib.hid (HB_w.out.trans (HBU.mono HB_w.out.size))
    replace HM := Lib.hid (HM.out.below HBU HM.out.lt)
    replace HR := Lib.hid (HR.out.below HBU HR.out.lt)
    replace HG := Lib.hid (HG.out.below HBU HG.out.lt)
    clear HBU
    replace HO := Lib.hid (HO.out.below (show Below ut.heap.size ut u2 from by rw [← HUE.out]; exact (Below.refl ut.heap.size ut).alloc (Nat.le_refl _) _))
    replace HOG := Lib.hid (OwnI.below HOG.out (show Below ut.heap.size ut u2 from by rw [← HUE.out]; exact (Below.refl ut.heap.size ut).alloc (Nat.le_refl _) _))
    have HPB : Hid (u5.heap.size ≤ ut.heap.size) := HBT
    go_upto_region 8 with fail
    (try rw [HUE.out])
    (try clear HUE)
    have HPc0 := HP.out.cell 0
    have HPc1 := HP.out.cell 1
    have HPlt := HP.out.lt
    simp at HPc0 HPc1
    have HUN := Lib.hid (unhang_any m.next (.slice At n ct) l u2 u5.heap.size (OB u5.heap.size ut.heap.size) (HO.out.ob HP.out) HO.out (by have := HP.out.lt; have := HPB.out; omega) (by rw [HLM.out]; exact HS.out) (by rw [HO.out.len_map HLM.out, HN.out]; omega) (by rw [HLM.out]; exact check_kids4 HCM.out) x (by rw [HLM.out]; exact HX.out.1) (by rw [HLM.out]; exact check_parent HCM.out HX.out.1))
    rw [HLM.out, HX.out.2] at HUN
    go_wp2_with fail
    refine HUN.out.mono ?_
    rintro _ un ⟨rfl, l1, hown, hlm, hk⟩
    have HO1 := Lib.hid hown
    have HL1 : Hid (l1.map LN.n = (mu m x).nodes) := Lib.hid (by rw [hlm]; show _ = unhangN m.nodes x.parent x.id; rw [HX.out.2])
    have hno1 : ¬ OB u5.heap.size ut.heap.size w.heap.size := fun h => by have := h.1; have := HBASE.out.1; omega
    have hno2 : ¬ OB u5.heap.size ut.heap.size (w.heap.size + 1) := fun h => by have := h.1; have := HBASE.out.1; omega
    have hno3 : ¬ OB u5.heap.size ut.heap.size ut.heap.size := fun h => h.2 rfl
    have hno4 : ¬ OB u5.heap.size ut.heap.size g := fun h => by have := h.1; have := HBASE.out.2.1; omega
    replace HM := Lib.hid (hk.blk HM.out hno1)
    replace HR := Lib.hid (hk.blk HR.out hno2)
    replace HP := Lib.hid (hk.blk HP.out hno3)
    replace HG := Lib.hid (hk.blk HG.out hno4)
    replace HOG := Lib.hid (hk.ownI HOG.out (fun b e h => by have := h.1; have := HBASE.out.2.2 b e; omega))
    replace HB_w : Hid (Below w.heap.size w un) := Lib.hid (HB_w.out.trans (hk.toBelow HB_w.out.size (fun b h => by have := h.1; have := HBASE.out.1; omega)))
    clear hown hlm hk HUN HPc0 HPc1 HPlt hno1 hno2 hno3 hno4
    have hl1 : l1.length = n := by rw [HO1.out.len_map HL1.out, mu_len, HN.out]
    have HGR : Hid (∀ w', un.grownBy w' (Value.slice At n ct).ownBlock → Blk w' g 35 #[.slice A2 GS.length c2] ∧ RowOf 1 EInt w' (fun b => b < w'.heap.size) A2 GS) := Lib.hid (fun w' hg => by
      have hne1 : ∀ b, (Value.slice At n ct).ownBlock = some b → u5.heap.size ≤ b := fun b e => (HO1.out.row.lt b e).1
      refine ⟨by rw [hGSl]; exact HG.out.grown hg (fun e => by have := hne1 _ e.symm; have := HBASE.out.2.1; omega), ?_⟩
      have h1 : OwnI w' (w.heap.size + 2) (.slice A2 (LB.length + 1) c2) GS := own_keep HOG.out (fun b e => hg.block b (HOG.out.lt b e).2 (fun e2 => by have := hne1 _ e2.symm; have := HBASE.out.2.2 b e; omega))
      obtain ⟨A', c', e, _, _, h3⟩ := h1.isRow (F := fun b => b < w'.heap.size) (fun b _ h => h)
      injection e with e1; subst e1; exact h3)
    have HDQ := Lib.hid (delNodeQ_any (.slice At n ct) l1 (fun y => decide (y.n.id ∈ GS)) g un u5.heap.size HO1.out.row (fun y hy => (HO1.out.lists y hy).shape) (fun y hy w' hg => remove1_any y (HO1.out.lists y hy).shape g A2 c2 GS w' (fun b => b < w'.heap.size) (fun b h => h) (HGR.out w' hg).2 (by omega) HGSS.out (HGR.out w' hg).1) (by omega))
    clear HGR
    have HPc0 := HP.out.cell 0
    have HPc1 := HP.out.cell 1
    have HPlt := HP.out.lt
    simp at HPc0 HPc1
    go_wp2_with fail
    refine HDQ.out.mono ?_
    rintro _ uz ⟨v9, rfl, hrow, hg, hvo⟩
    have HO2 := Lib.hid (HO1.out.drop_nodes _ hrow hg hvo)
    have hne1 : ∀ b, (Value.slice At n ct).ownBlock = some b → u5.heap.size ≤ b := fun b e => (HO1.out.row.lt b e).1
    have HNP : Hid (∀ b, some b ∈ (v9.ownBlock :: allBlocks (keepQ (fun y : LN => decide (y.n.id ∈ GS)) l1)) → b ≠ ut.heap.size) := Lib.hid (fun b hb => by
      rcases List.mem_cons.1 hb with hb | hb
      · rw [hvo] at hb
        exact HO1.out.ne_blk HP.out b (by rw [hb]; exact List.mem_cons_self ..)
      · exact HO1.out.ne_blk HP.out b (List.mem_cons_of_mem _ ((sub_flat _ _).subset hb)))
    have HVP : Hid ((Value.slice At n ct).ownBlock ≠ some ut.heap.size) := Lib.hid (fun e => HO1.out.ne_blk HP.out ut.heap.size (by rw [e]; exact List.mem_cons_self ..) rfl)
    replace HP := Lib.hid (HP.out.grown hg (fun e => HVP.out e.symm))
    replace HR := Lib.hid (HR.out.grown hg (fun e => by have := hne1 _ e.symm; have := HBASE.out.1; omega))
    replace HB_w : Hid (Below w.heap.size w uz) := Lib.hid (HB_w.out.grown hg HB_w.out.size (fun k e => by have := hne1 k e; have := HBASE.out.1; omega))
    have HFIN : Hid ((keepQ (fun y : LN => decide (y.n.id ∈ GS)) l1).map LN.n = LL) := Lib.hid (by
      rw [map_keepQ (fun k => decide (k ∈ GS)), HL1.out, ← HLL.out]
      unfold removeL
      rw [HXO.out, HLBE.out]
      congr 1
      funext y
      rw [show decide (y.id ∈ GS) = decide (y.id ∈ LB ++ [id]) from decide_eq_decide.2 (HGSM.out y.id)])
    obtain ⟨A9, c9, rfl⟩ := own_shape hrow
    clear hrow hg hvo HDQ HPc0 HPc1 HPlt HM HG HOG HO1 hne1
    have p0 := HP.out.cell 0; have p1 := HP.out.cell 1
    have hplt := HP.out.lt
    have tp0 := HP.out.frozen 0; have tp1 := HP.out.frozen 1
    simp at p0 p1
    obtain ⟨kn, hkn⟩ : ∃ z, (keepQ (fun y : LN => decide (y.n.id ∈ GS)) l1).length = z := ⟨_, rfl⟩
    rw [hkn] at HO2 HNP ⊢
    clear hkn
    go_upto_region 10 with fail
    obtain ⟨uy, huy⟩ : ∃ u : World, uz.setCell ⟨ut.heap.size, 1, none⟩ (.slice A9 kn c9) = u := ⟨_, rfl⟩
    have HUY := Lib.hid huy
    have HP2 : Hid (Blk uy ut.heap.size 24 #[.int .i64 m.next, .slice A9 kn c9]) := Lib.hid (by rw [← huy]; exact HP.out.set_ 1 (.slice A9 kn c9))
    have hb : Below ut.heap.size uz uy := by rw [← huy]; exact (Below.refl _ _).setCell (p := ⟨ut.heap.size, 1, none⟩) (Nat.le_refl _) _
    have hut : w.heap.size + 2 ≤ ut.heap.size := by have := HBASE.out.1; have := HPB.out; omega
    replace HR := Lib.hid (HR.out.below hb (by omega))
    replace HB_w := Lib.hid (HB_w.out.trans (hb.mono (by omega)))
    have HO3 : Hid (OwnM uy u5.heap.size (.slice A9 kn c9) (keepQ (fun y : LN => decide (y.n.id ∈ GS)) l1)) := Lib.hid (by
      rw [← huy]
      exact ⟨own_keep HO2.out.row (fun b e => Below.heap_setCell _ _ _ _ (HNP.out b (by rw [e]; exact List.mem_cons_self ..))), fun y hy => (HO2.out.lists y hy).keep (fun b e => Below.heap_setCell _ _ _ _ (HNP.out b (List.mem_cons_of_mem _ (mem_all hy e)))), HO2.out.dis⟩)
    rw [huy]
    clear huy hb p0 p1 hplt tp0 tp1 HP HO2
    have p0 := HP2.out.cell 0; have p1 := HP2.out.cell 1
    have hplt := HP2.out.lt
    simp at p0 p1
    have t0 := HR.out.frozen 0; have t1 := HR.out.frozen 1
    have r0 := HR.out.cell 0; have r1 := HR.out.cell 1
    have hrlt := HR.out.lt
    simp at r0 r1
    go_wp2_with fail
    have hyS := (HR.out.set_ 0 (.int .i64 m.next)).set_ 1 (.slice A9 kn c9)
    have f0 := hyS.cell 0; have f1 := hyS.cell 1
    simp at f0 f1
    have HBW := Lib.hid ((HB_w.out.setCell (p := ⟨w.heap.size + 1, 0, none⟩) (by show w.heap.size ≤ w.heap.size + 1; omega) (.int .i64 m.next)).setCell (p := ⟨w.heap.size + 1, 1, none⟩) (by show w.heap.size ≤ w.heap.size + 1; omega) (.slice A9 kn c9))
    refine bodyPost_ret (v := .tuple #[.agg #[.int .i64 m.next, .slice A9 kn c9], .int .i64 0]) (by simp [results, Try.results51, go_sem, f0, f1]) rfl ⟨⟨_, rfl, Or.inr ⟨E.out, _, _, rfl, ?_, HFIN.out⟩⟩, HBW.out⟩
    refine (HO3.out.keep (w' := (uy.setCell ⟨w.heap.size + 1, 0, none⟩ (.int .i64 m.next)).setCell ⟨w.heap.size + 1, 1, none⟩ (.slice A9 kn c9)) (fun b h1 _ => ?_)).weaken (by have := HBASE.out.1; omega)
    have := HBASE.out.1
    exact (Below.heap_setCell _ _ _ _ (by show b ≠ w.heap.size + 1; omega)).trans (Below.heap_setCell _ _ _ _ (by show b ≠ w.heap.size + 1; omega))
end Go.Proofs.Ytmafhaadcjgcbaa
end
section
/- one of a model's IDs, or none -/
namespace Go.Proofs.Ytmafhaadcjgcbaa
open Go Go.RowKit

set_option maxRecDepth 100000 in
set_option maxHeartbeats 4000000 in
theorem pick_any (A : Option Addr) (c : Nat) (m : AModel) (w : World) (F : Nat → Prop) (hF : ∀ b, F b → b < w.heap.size) (h : RowOf 7 ENode w F A m.nodes) (hc : CheckM m) (x : Int) (hx : InR x) :
    Calls Try.prog 57 #[.agg #[.int .i64 m.next, .slice A m.nodes.length c], .int .i64 x] w fun e w' => e = .returned (.int .i64 (pickI m x)) ∧ Below w.heap.size w w' := by
  have hl4 := hc.1.1.2.2
  have HOR := Lib.hid (fun (w' : World) (hb : Below w.heap.size w w') => order_any A c m w' F (fun b h => Nat.lt_of_lt_of_le (hF b h) hb.size) (h.keep ENode.stays (Keep.below hb hF) (fun _ h => h)) (node_ok hc) (by omega))
  rw [ordL_yes hc] at HOR
  obtain ⟨L, hL⟩ : ∃ L, orderL m = L := ⟨_, rfl⟩
  have hol : L.length ≤ 4096 := by rw [← hL]; exact Nat.le_trans hc.tree.order_len hl4
  have hq := restN_lt x (show 1 ≤ L.length + 1 by omega)
  have HRE : Hid (∀ w', Calls Try.prog 58 #[.int .i64 x, .int .i64 ((L.length : Int) + 1)] w' fun e w2 => e = .returned (.int .i64 (restN x (L.length + 1))) ∧ Below w'.heap.size w' w2) := Lib.hid (fun w' => rest_any x (L.length + 1) hx (by omega) (by omega) w')
  obtain ⟨r, hr⟩ : ∃ r, pickI m x = r := ⟨_, rfl⟩
  have HR : Hid (L.getD (restN x (L.length + 1)) 0 = r) := Lib.hid (by rw [← hr]; unfold pickI; rw [hL])
  obtain ⟨q, hq2⟩ : ∃ q, restN x (L.length + 1) = q := ⟨_, rfl⟩
  rw [hq2] at HRE hq HR
  rw [hL] at HOR
  obtain ⟨n, hn⟩ : ∃ n, m.nodes.length = n := ⟨_, rfl⟩
  rw [hn] at HOR hl4 ⊢
  rw [hr]
  clear h hF hL hn hc hr hq2
  obtain ⟨u0, hu0⟩ : ∃ u : World, w.alloc (.cells #[.int .i64 m.next, .slice A n c] 24) = u := ⟨_, rfl⟩
  have MM : Hid (Mem w u0 ([.blk w.heap.size 24 #[.int .i64 m.next, .slice A n c]])) := Lib.hid (by rw [← hu0]; exact (Mem.start w).allocG rfl #[.int .i64 m.next, .slice A n c] 24)
  have HU0 := Lib.hid hu0
  clear hu0
  go_enter Try.func57, Try.ntmps57
  go_wp2_with fail
  (try rw [HU0.out])
  clear HU0
  refine (HOR.out _ MM.out.below).mono ?_
  rintro _ u1 ⟨v, rfl, hown, hb⟩
  obtain ⟨Al, cl, rfl⟩ := hown.shape
  have HLR : Hid (∀ w', Below u1.heap.size u1 w' → RowOf 1 EInt w' (fun b => b < u1.heap.size) Al L) := Lib.hid (fun w' hb' => by
    obtain ⟨A', c', e, _, _, h3⟩ := hown.isRow (F := fun b => b < u1.heap.size) (fun b _ h => h)
    injection e with e1; subst e1
    exact h3.keep EInt.stays (Keep.below hb' (fun _ h => h)) (fun _ h => h))
  clear hown HOR
  have MM2 : Hid (Mem w u1 ([.blk w.heap.size 24 #[.int .i64 m.next, .slice A n c]])) := Lib.hid (MM.out.call hb)
  clear MM
  have MM := MM2
  clear MM2
  clear hb
  go_wp2_with fail
  refine (HRE.out _).mono ?_
  rintro _ u2 ⟨rfl, hb⟩
  have HLR2 := Lib.hid (HLR.out _ hb)
  clear HRE HLR
  have MM2 : Hid (Mem w u2 ([.blk w.heap.size 24 #[.int .i64 m.next, .slice A n c]])) := Lib.hid (MM.out.call hb)
  clear MM
  have MM := MM2
  clear MM2
  clear hb
  by_cases hqe : q = L.length
  · have g : ((q : Int) == (L.length : Int)) = true := by simp; omega
    go_wp2
    go_ret
    have e := HR.out
    rw [List.getD_eq_getElem?_getD, List.getElem?_eq_none (by omega)] at e
    exact ⟨by rw [← e]; rfl, MM.out.below⟩
  · have g : ((q : Int) == (L.length : Int)) = false := by simp; omega
    have hql : q < L.length := by omega
    obtain ⟨b, off, rfl, _, q0⟩ := int_at HLR2.out hql
    have q1 : (q : Int) < L.length := by omega
    have q2 : (0 : Int) ≤ q := by omega
    go_wp2
    go_ret
    have e := HR.out
    rw [List.getD_eq_getElem?_getD, List.getElem?_eq_getElem hql] at e
    exact ⟨by rw [← e]; rfl, MM.out.below⟩
end Go.Proofs.Ytmafhaadcjgcbaa
end
section
/- what an act makes of a model: topiarylaw02.done -/
namespace Go.Proofs.Ytmafhaadcjgcbaa
open Go Go.RowKit

structure ActOK (a : QAct) : Prop where
  hkind : InR a.kind
  ha : InR a.a
  hb : InR a.b
  hat : InR a.at'
  hword : a.word.size ≤ 9223372036854775807
  htext : a.text.size ≤ 9223372036854775807
/-- a model that an act made, or the one that was, and its error -/
def DoneAs (w' : World) (base : Nat) (A : Option Addr) (c : Nat) (m : AModel) (E : Int) (M : AModel) (v : Value) : Prop :=
  (E ≠ 0 ∧ M = m ∧ v = .tuple #[.agg #[.int .i64 m.next, .slice A m.nodes.length c], .int .i64 E]) ∨
  (E = 0 ∧ ∃ vl l, v = .tuple #[.agg #[.int .i64 M.next, vl], .int .i64 0] ∧ OwnM w' base vl l ∧ l.map LN.n = M.nodes)
/-- the same, of the callee's model alone -/
def MadeAs (w' : World) (base : Nat) (E : Int) (M : AModel) (z : Int) (A1 : Option Addr) (n1 c1 : Nat) : Prop :=
  E ≠ 0 ∨ (E = 0 ∧ z = M.next ∧ ∃ l, OwnM w' base (.slice A1 n1 c1) l ∧ l.map LN.n = M.nodes)
theorem MadeAs.to {w' w2 : World} {base base2 : Nat} {E : Int} {M M2 : AModel} {z : Int} {A1 : Option Addr} {n1 c1 : Nat} (h : MadeAs w' base E M z A1 n1 c1) (hM : E = 0 → M2 = M) (hb : base2 ≤ base) (hk : ∀ b, base2 ≤ b → b < w'.heap.size → w2.heap[b]? = w'.heap[b]?) : MadeAs w2 base2 E M2 z A1 n1 c1 := by
  rcases h with h | ⟨e, e2, l, ho, hl⟩
  · exact .inl h
  · rw [hM e]
    exact .inr ⟨e, e2, l, (ho.weaken hb).keep hk, hl⟩
section
variable {w' : World} {base : Nat} {m : AModel} {v : Value}
theorem set_made (hc : CheckM m) {id E : Int} {g : ANode → ANode} (h : SetAs w' base m id E g v) : ∃ z A1 n1 c1, v = .tuple #[.agg #[.int .i64 z, .slice A1 n1 c1], .int .i64 E] ∧ MadeAs w' base E ⟨m.next, m.nodes.set (atI m.nodes id).toNat (g (nodeOf m id))⟩ z A1 n1 c1 := by
  rcases h with ⟨hE, rfl⟩ | ⟨hE, vl, l, rfl, ho, j, hj, rfl, hl⟩
  · exact ⟨0, none, 0, 0, rfl, .inl hE⟩
  · obtain ⟨A', c', rfl⟩ := own_shape ho.row
    have e1 : (atI m.nodes m.nodes[j].id).toNat = j := by rw [atI_some hc.1.srt hj rfl]; rfl
    have e2 : nodeOf m m.nodes[j].id = m.nodes[j] := hc.tree.nodeOf (List.getElem_mem hj)
    refine ⟨m.next, A', l.length, c', by rw [hE], .inr ⟨hE, rfl, l, ho, ?_⟩⟩
    rw [hl, e1, e2]
theorem res_made {next E : Int} {ns : List ANode} (h : ResOwn w' base next E ns v) : ∃ z A1 n1 c1, v = .tuple #[.agg #[.int .i64 z, .slice A1 n1 c1], .int .i64 E] ∧ MadeAs w' base E ⟨next, ns⟩ z A1 n1 c1 := by
  rcases h with ⟨hE, rfl⟩ | ⟨hE, vl, l, rfl, ho, hl⟩
  · exact ⟨0, none, 0, 0, rfl, .inl hE⟩
  · obtain ⟨A', c', rfl⟩ := own_shape ho.row
    exact ⟨next, A', l.length, c', by rw [hE], .inr ⟨hE, rfl, l, ho, hl⟩⟩
theorem copy_made {next more E : Int} {ns : List ANode} (h : ResCopyO w' base next more E ns v) : ∃ k z A1 n1 c1, v = .tuple #[.agg #[.int .i64 z, .slice A1 n1 c1], .int .i64 k, .int .i64 E] ∧ MadeAs w' base E ⟨next + more, ns⟩ z A1 n1 c1 := by
  rcases h with ⟨hE, rfl⟩ | ⟨hE, vl, l, rfl, ho, hl⟩
  · exact ⟨0, 0, none, 0, 0, rfl, .inl hE⟩
  · obtain ⟨A', c', rfl⟩ := own_shape ho.row
    exact ⟨next, next + more, A', l.length, c', by rw [hE], .inr ⟨hE, rfl, l, ho, hl⟩⟩
theorem add_made (hc : CheckM m) {p a : Int} {role concept : ByteArray} (h : AddAs w' base m p role a concept v) : ∃ k z A1 n1 c1, v = .tuple #[.agg #[.int .i64 z, .slice A1 n1 c1], .int .i64 k, .int .i64 (addE m p role a concept)] ∧ MadeAs w' base (addE m p role a concept) (addM m p role a concept) z A1 n1 c1 := by
  rcases h with ⟨E, hE, e, rfl⟩ | ⟨hE, vl, l, rfl, ho, h2⟩
  · exact ⟨0, 0, none, 0, 0, by rw [e], .inl (by rw [e]; exact hE)⟩
  · obtain ⟨A', c', rfl⟩ := own_shape ho.row
    refine ⟨m.next, m.next + 1, A', l.length, c', by rw [hE], .inr ⟨hE, ?_, l, ho, ?_⟩⟩
    · unfold addM; split <;> rfl
    · rcases h2 with ⟨hp, hl⟩ | ⟨hp, j, hj, rfl, i, hs, hl⟩
      · rw [hl]; unfold addM; rw [if_pos hp]
      · have e1 : (atI m.nodes m.nodes[j].id).toNat = j := by rw [atI_some hc.1.srt hj rfl]; rfl
        have e2 : nodeOf m m.nodes[j].id = m.nodes[j] := hc.tree.nodeOf (List.getElem_mem hj)
        rw [hl]
        unfold addM
        rw [if_neg hp, e1, e2, hs]
        rfl
theorem kidR_len (hc : CheckM m) (role : ByteArray) (id : Int) : (kidR m role id).length ≤ 4096 := by
  have h4 := check_kids4 hc
  unfold kidR
  split
  · rename_i h
    obtain ⟨_, x, hx, e⟩ := h
    subst e
    rw [hc.tree.nodeOf hx]
    exact Nat.le_trans (List.length_filter_le _ _) (h4 x hx)
  · simp
theorem pick_in (hc : CheckM m) (x : Int) : pickI m x = 0 ∨ ∃ y ∈ m.nodes, y.id = pickI m x := by
  unfold pickI
  rw [List.getD_eq_getElem?_getD]
  by_cases h : restN x ((orderL m).length + 1) < (orderL m).length
  · rw [List.getElem?_eq_getElem h]
    exact .inr (hc.tree.order_node (List.getElem_mem h))
  · rw [List.getElem?_eq_none (by omega)]; exact .inl rfl
theorem pick_inR (hc : CheckM m) (x : Int) : InR (pickI m x) := by
  rcases pick_in hc x with e | ⟨y, hy, e⟩
  · rw [e]; unfold InR; omega
  · obtain ⟨j, hj, rfl⟩ := List.getElem_of_mem hy
    have h1 := hc.1.2 j hj
    have h2 := hc.1.1.2.1
    rw [← e]; unfold InR; omega
end

set_option maxRecDepth 100000 in
set_option maxHeartbeats 8000000 in
theorem done_any (A : Option Addr) (c : Nat) (m : AModel) (w : World) (F : Nat → Prop) (hF : ∀ b, F b → b < w.heap.size) (h : RowOf 7 ENode w F A m.nodes) (hc : CheckM m) (k : Nat) (hk : k ≤ 100000) (hf : Few k m) (a : QAct) (ha : ActOK a) :
    Calls Try.prog 54 #[.agg #[.int .i64 m.next, .slice A m.nodes.length c], .agg #[.int .i64 a.kind, .int .i64 a.a, .int .i64 a.b, .int .i64 a.at', .string a.word, .string a.text]] w fun e w' => (∃ v, e = .returned v ∧ DoneAs w' w.heap.size A c m (doneE m a) (doneM m a) v) ∧ Below w.heap.size w w' := by
  have hl4 := hc.1.1.2.2
  have HLN := Lib.hid (lens_few hc hf hk)
  have HNO := Lib.hid (node_ok hc)
  have HRW : Hid (∀ w', Below w.heap.size w w' → RowOf 7 ENode w' F A m.nodes) := Lib.hid (fun w' hb => h.keep ENode.stays (Keep.below hb hF) (fun _ h => h))
  have HFW : Hid (∀ w', Below w.heap.size w w' → ∀ b, F b → b < w'.heap.size) := Lib.hid (fun w' hb b h => Nat.lt_of_lt_of_le (hF b h) hb.size)
  obtain ⟨ak, hak⟩ : ∃ ak, a.kind = ak := ⟨_, rfl⟩
  obtain ⟨kd, hkd⟩ : ∃ kd, restN ak 7 = kd := ⟨_, rfl⟩
  have hkd7 : kd < 7 := by rw [← hkd]; exact restN_lt _ (by omega)
  have HRK : Hid (∀ w', Calls Try.prog 58 #[.int .i64 ak, .int .i64 7] w' fun e w2 => e = .returned (.int .i64 kd) ∧ Below w'.heap.size w' w2) := Lib.hid (fun w' => by
    have := rest_any ak 7 (by rw [← hak]; exact ha.hkind) (by omega) (by omega) w'
    rw [hkd] at this
    exact this)
  have HPA := Lib.hid (fun (w' : World) (hb : Below w.heap.size w w') => pick_any A c m w' F (HFW.out _ hb) (HRW.out _ hb) hc a.a ha.ha)
  have HPB := Lib.hid (fun (w' : World) (hb : Below w.heap.size w w') => pick_any A c m w' F (HFW.out _ hb) (HRW.out _ hb) hc a.b ha.hb)
  obtain ⟨x, hx⟩ : ∃ x, pickI m a.a = x := ⟨_, rfl⟩
  obtain ⟨y, hy⟩ : ∃ y, pickI m a.b = y := ⟨_, rfl⟩
  have hxr : InR x := by rw [← hx]; exact pick_inR hc _
  have hyr : InR y := by rw [← hy]; exact pick_inR hc _
  rw [hx] at HPA
  rw [hy] at HPB
  have HKD := Lib.hid (fun (w' : World) (hb : Below w.heap.size w w') => kidsA_any A c m w' F (HFW.out _ hb) (HRW.out _ hb) HNO.out (by omega) y hyr a.word)
  obtain ⟨KL, hKL⟩ : ∃ L, kidR m a.word y = L := ⟨_, rfl⟩
  have hkl : KL.length ≤ 4096 := by rw [← hKL]; exact kidR_len hc _ _
  rw [hKL] at HKD
  obtain ⟨at2, hat2⟩ : ∃ z, a.at' = z := ⟨_, rfl⟩
  obtain ⟨q, hq⟩ : ∃ q, restN at2 (KL.length + 1) = q := ⟨_, rfl⟩
  have hql : q < KL.length + 1 := by rw [← hq]; exact restN_lt _ (by omega)
  have HRQ : Hid (∀ w', Calls Try.prog 58 #[.int .i64 at2, .int .i64 (IntKind.i64.wrap ((KL.length : Int) + 1))] w' fun e w2 => e = .returned (.int .i64 q) ∧ Below w'.heap.size w' w2) := Lib.hid (fun w' => by
    rw [IntWalk.i64_in ((KL.length : Int) + 1) ⟨by omega, by omega⟩]
    have := rest_any at2 (KL.length + 1) (by rw [← hat2]; exact ha.hat) (by omega) (by omega) w'
    rw [hq] at this
    exact this)
  obtain ⟨ro, hro⟩ : ∃ r, roleOf m a = r := ⟨_, rfl⟩
  obtain ⟨pl, hpl⟩ : ∃ p, placeOf m a = p := ⟨_, rfl⟩
  obtain ⟨wd, hwd⟩ : ∃ z, a.word = z := ⟨_, rfl⟩
  obtain ⟨tx, htx⟩ : ∃ z, a.text = z := ⟨_, rfl⟩
  have HR0 : Hid (y = 0 → ro = ⟨#[]⟩ ∧ pl = 0) := Lib.hid (fun h0 => by
    rw [← hro, ← hpl]
    exact ⟨if_pos (hy.trans h0), if_pos (hy.trans h0)⟩)
  have HR1 : Hid (y ≠ 0 → ro = wd ∧ pl = q) := Lib.hid (fun h0 => by
    rw [← hro, ← hpl]
    refine ⟨(if_neg (by rw [hy]; exact h0)).trans hwd, (if_neg (by rw [hy]; exact h0)).trans ?_⟩
    rw [hy, hKL, hat2, hq])
  have hwds : wd.size ≤ 9223372036854775807 := by rw [← hwd]; exact ha.hword
  have htxs : tx.size ≤ 9223372036854775807 := by rw [← htx]; exact ha.htext
  have hros : ro.size ≤ 9223372036854775807 := by
    by_cases h0 : y = 0
    · rw [(HR0.out h0).1]; decide
    · rw [(HR1.out h0).1]; exact hwds
  have hplr : InR pl := by
    by_cases h0 : y = 0
    · rw [(HR0.out h0).2]; unfold InR; omega
    · rw [(HR1.out h0).2]; unfold InR; omega
  obtain ⟨E, hE⟩ : ∃ E, doneE m a = E := ⟨_, rfl⟩
  obtain ⟨M, hM⟩ : ∃ M, doneM m a = M := ⟨_, rfl⟩
  have HE : Hid (E = actE m kd x y ro pl wd tx) := Lib.hid (by rw [← hE]; unfold doneE; rw [hak, hkd, hx, hy, hro, hpl, hwd, htx])
  have HM1 : Hid (E = 0 → M = actM m kd x y ro pl wd tx) := Lib.hid (fun h0 => by rw [← hM]; unfold doneM; rw [if_pos (hE.trans h0), hak, hkd, hx, hy, hro, hpl, hwd, htx])
  have HM0 : Hid (E ≠ 0 → M = m) := Lib.hid (fun h0 => by rw [← hM]; exact if_neg (by rw [hE]; exact h0))
  rw [hE, hM]
  have HADD := Lib.hid (fun (w' : World) (hb : Below w.heap.size w w') => addA_any A c m w' F (HFW.out _ hb) (HRW.out _ hb) HNO.out HLN.out (by omega) y hyr ro hros pl hplr sN (by decide))
  have HMOV := Lib.hid (fun (w' : World) (hb : Below w.heap.size w w') => moveA_any A c m w' F (HFW.out _ hb) (HRW.out _ hb) HNO.out HLN.out (by omega) x hxr y hyr ro hros pl hplr)
  have HCPY := Lib.hid (fun (w' : World) (hb : Below w.heap.size w w') => copyA_any A c m w' F (HFW.out _ hb) (HRW.out _ hb) HNO.out HLN.out (by omega) x hxr y hyr ro hros pl hplr)
  have HREM := Lib.hid (fun (w' : World) (hb : Below w.heap.size w w') => removeA_any A c m w' F (HFW.out _ hb) (HRW.out _ hb) HNO.out HLN.out (by omega) x hxr)
  have HPUT := Lib.hid (fun (w' : World) (hb : Below w.heap.size w w') => putA_any A c m w' F (HFW.out _ hb) (HRW.out _ hb) HNO.out HLN.out (by omega) x hxr wd hwds tx htxs)
  have HAIM := Lib.hid (fun (w' : World) (hb : Below w.heap.size w w') => aimA_any A c m w' F (HFW.out _ hb) (HRW.out _ hb) HNO.out HLN.out (by omega) x hxr wd hwds y hyr)
  obtain ⟨n, hn⟩ : ∃ n, m.nodes.length = n := ⟨_, rfl⟩
  have HN := Lib.hid hn
  rw [hn] at HPA HPB HKD HADD HMOV HCPY HREM HPUT HAIM hl4 ⊢
  rw [hwd] at HKD
  obtain ⟨aa, haa⟩ : ∃ z, a.a = z := ⟨_, rfl⟩
  obtain ⟨ab, hab⟩ : ∃ z, a.b = z := ⟨_, rfl⟩
  rw [haa] at HPA
  rw [hab] at HPB
  rw [hak, haa, hab, hat2, hwd, htx]
  have HCM := Lib.hid hc
  clear h hF hn hc ha hf hk HRW HFW HLN HNO hak hkd hx hy hKL hat2 hq hro hpl hwd htx hE hM haa hab
  obtain ⟨u0, hu0⟩ : ∃ u : World, ((w.alloc (.cells #[.int .i64 m.next, .slice A n c] 24)).alloc (.cells #[.int .i64 ak, .int .i64 aa, .int .i64 ab, .int .i64 at2, .string wd, .string tx] 74)).alloc (.cells #[.int .i64 0, .slice none 0 0] 24) = u := ⟨_, rfl⟩
  have MM : Hid (Mem w u0 ([.blk w.heap.size 24 #[.int .i64 m.next, .slice A n c], .blk (w.heap.size + 1) 74 #[.int .i64 ak, .int .i64 aa, .int .i64 ab, .int .i64 at2, .string wd, .string tx], .blk (w.heap.size + 2) 24 #[.int .i64 0, .slice none 0 0]])) := Lib.hid (by
    rw [← hu0]
    have h := (((Mem.start w).allocG rfl #[.int .i64 m.next, .slice A n c] 24).allocG (g := w.heap.size + 1) (by simp) #[.int .i64 ak, .int .i64 aa, .int .i64 ab, .int .i64 at2, .string wd, .string tx] 74).allocG (g := w.heap.size + 2) (by simp) #[.int .i64 0, .slice none 0 0] 24
    exact h.pick0 [2, 1, 0] _ (by decide) rfl)
  have HU0 := Lib.hid hu0
  clear hu0
  go_enter Try.func54, Try.ntmps54
  go_upto_region 1 with fail
  (try rw [HU0.out])
  clear HU0
  have mc0 := (MM.out.blk 0 rfl).cell 0
  have mc1 := (MM.out.blk 0 rfl).cell 1
  have mlt := (MM.out.blk 0 rfl).lt
  simp at mc0 mc1
  have cc1 := (MM.out.blk 1 rfl).cell 1
  have cc2 := (MM.out.blk 1 rfl).cell 2
  have clt := (MM.out.blk 1 rfl).lt
  simp at cc1 cc2
  have k0 := cell_regrown (mc0)
  have k1 := cell_regrown (mc1)
  have k2 := cell_regrown (cc1)
  have k3 := cell_regrown (cc2)
  have CHA := Lib.hid (fun (d : Nat) (os : Array Obj) => Calls.regrown_of (w := u0) (d := d) (os := os) (HPA.out _ (MM.out.below.trans ((below_regrown u0 d os).mono MM.out.size))))
  have CHB := Lib.hid (fun (d : Nat) (os : Array Obj) => Calls.regrown_of (w := u0) (d := d) (os := os) (HPB.out _ (MM.out.below.trans ((below_regrown u0 d os).mono MM.out.size))))
  clear HPA HPB mc0 mc1 mlt cc1 cc2 clt
  refine wp_region_quiet_below (by kernel_rfl) (by kernel_rfl) ?_
  iterate 7 (first | go_big_quiet_step (exact CHA.out _ _) | quiet_step (exact CHA.out _ _))
  repeat (first | go_big_quiet_step (exact CHB.out _ _) | quiet_step (exact CHB.out _ _))
  refine wpQuiet_nil ?_
  intro _ hw'
  obtain ⟨⟨dq, osq⟩, hw''⟩ := hw'
  subst hw''
  have hb := below_regrown u0 dq osq
  obtain ⟨u1, hwi⟩ : ∃ u : World, Sort.grow (redrawn u0 dq) osq = u := ⟨_, rfl⟩
  rw [hwi] at hb ⊢
  clear hwi k0 k1 k2 k3 CHA CHB
  have MM2 : Hid (Mem w u1 ([.blk w.heap.size 24 #[.int .i64 m.next, .slice A n c], .blk (w.heap.size + 1) 74 #[.int .i64 ak, .int .i64 aa, .int .i64 ab, .int .i64 at2, .string wd, .string tx], .blk (w.heap.size + 2) 24 #[.int .i64 0, .slice none 0 0]])) := Lib.hid (MM.out.call hb)
  clear MM
  have MM := MM2
  clear MM2
  clear hb
  have cc4 := (MM.out.blk 1 rfl).cell 4
  have clt := (MM.out.blk 1 rfl).lt
  simp at cc4
  go_upto_region 3 with fail
  clear cc4 clt
  have HSM : Hid (∀ w', Blk w' w.heap.size 24 #[.int .i64 m.next, .slice A n c] → Blk w' (w.heap.size + 1) 74 #[.int .i64 ak, .int .i64 aa, .int .i64 ab, .int .i64 at2, .string wd, .string tx] → w'.cell? ⟨w.heap.size, 0, none⟩ = some (.int .i64 m.next) ∧ w'.cell? ⟨w.heap.size, 1, none⟩ = some (.slice A n c) ∧ w'.cell? ⟨w.heap.size + 1, 3, none⟩ = some (.int .i64 at2)) := Lib.hid (fun w' h h2 => by
    have a := h.cell 0; have b := h.cell 1; have d := h2.cell 3
    simp at a b d
    exact ⟨a, b, d⟩)
  obtain ⟨u, hu⟩ : ∃ z9 : World, u1.drew = z9 := ⟨_, rfl⟩
  have MM2 : Hid (Mem w u ([.blk w.heap.size 24 #[.int .i64 m.next, .slice A n c], .blk (w.heap.size + 1) 74 #[.int .i64 ak, .int .i64 aa, .int .i64 ab, .int .i64 at2, .string wd, .string tx], .blk (w.heap.size + 2) 24 #[.int .i64 0, .slice none 0 0]])) := Lib.hid (by rw [← hu]; exact MM.out.drew)
  clear MM
  have MM := MM2
  clear MM2
  refine wp_region_Y (S := (fun w' : World => w'.cell? ⟨w.heap.size, 0, none⟩ = some (.int .i64 m.next) ∧ w'.cell? ⟨w.heap.size, 1, none⟩ = some (.slice A n c) ∧ w'.cell? ⟨w.heap.size + 1, 3, none⟩ = some (.int .i64 at2))) 9 (by kernel_rfl) (by rw [hu]; exact HSM.out _ (MM.out.blk 0 rfl) (MM.out.blk 1 rfl)) (fun hHeld => ?_)
  rw [hu] at hHeld ⊢
  clear hu
  refine wpAnyY_take (i := 0) (v := ?_) rfl (by kernel_rfl) (by kernel_rfl) (by kernel_rfl) (by kernel_rfl) (fun _ _ _ h => h) (Or.inl ⟨by rfl, ?_⟩) (by assumption) ?_
  rotate_left 1
  · (intro w' hSw; obtain ⟨s0, s1, s2⟩ := hSw; go_simp); try with_reducible rfl
  try simp only [Act.put, List.setIfInBounds_toArray, List.set_cons_zero, List.set_cons_succ, Nat.zero_add]
  refine wpAnyY_take (i := 1) (v := ?_) rfl (by kernel_rfl) (by kernel_rfl) (by kernel_rfl) (by kernel_rfl) (fun _ _ _ h => h) (Or.inl ⟨by rfl, ?_⟩) (by assumption) ?_
  rotate_left 1
  · (intro w' hSw; obtain ⟨s0, s1, s2⟩ := hSw; go_simp); try with_reducible rfl
  try simp only [Act.put, List.setIfInBounds_toArray, List.set_cons_zero, List.set_cons_succ, Nat.zero_add]
  refine wpAnyY_take (i := 2) (v := ?_) rfl (by kernel_rfl) (by kernel_rfl) (by kernel_rfl) (by kernel_rfl) (fun _ _ _ h => h) (Or.inl ⟨by rfl, ?_⟩) (by assumption) ?_
  rotate_left 1
  · (intro w' hSw; obtain ⟨s0, s1, s2⟩ := hSw; go_simp); try with_reducible rfl
  try simp only [Act.put, List.setIfInBounds_toArray, List.set_cons_zero, List.set_cons_succ, Nat.zero_add]
  refine wpAnyY_take (i := 3) (v := ?_) rfl (by kernel_rfl) (by kernel_rfl) (by kernel_rfl) (by kernel_rfl) (fun _ _ _ h => h) (Or.inl ⟨by rfl, ?_⟩) (by assumption) ?_
  rotate_left 1
  · (intro w' hSw; obtain ⟨s0, s1, s2⟩ := hSw; go_simp); try with_reducible rfl
  try simp only [Act.put, List.setIfInBounds_toArray, List.set_cons_zero, List.set_cons_succ, Nat.zero_add]
  refine wpAnyY_take (i := 4) (v := ?_) rfl (by kernel_rfl) (by kernel_rfl) (by kernel_rfl) (by kernel_rfl) (fun _ _ _ h => h) (Or.inl ⟨by rfl, ?_⟩) (by assumption) ?_
  rotate_left 1
  · (intro w' hSw; obtain ⟨s0, s1, s2⟩ := hSw; go_simp); try with_reducible rfl
  try simp only [Act.put, List.setIfInBounds_toArray, List.set_cons_zero, List.set_cons_succ, Nat.zero_add]
  refine wpAnyY_one (i := 5) rfl (by kernel_rfl) (fun K hK => ?_)
  go_simp
  refine (HKD.out _ MM.out.below).mono ?_
  rintro _ v1 ⟨vk, rfl, hown, hb⟩
  obtain ⟨Ak, ck, rfl⟩ := hown.shape
  clear hown
  have MM2 : Hid (Mem w v1 ([.blk w.heap.size 24 #[.int .i64 m.next, .slice A n c], .blk (w.heap.size + 1) 74 #[.int .i64 ak, .int .i64 aa, .int .i64 ab, .int .i64 at2, .string wd, .string tx], .blk (w.heap.size + 2) 24 #[.int .i64 0, .slice none 0 0]])) := Lib.hid (MM.out.call hb)
  clear MM hb
  have MM := MM2
  clear MM2
  go_simp
  have hHeldv1 := HSM.out _ (MM.out.blk 0 rfl) (MM.out.blk 1 rfl)
  refine hK.out _ _ (fun _ => HSM.out _ (MM.out.blk 0 rfl) (MM.out.blk 1 rfl)) ?_
  clear hK K
  try simp only [Act.put, List.setIfInBounds_toArray, List.set_cons_zero, List.set_cons_succ, Nat.zero_add]
  refine wpAnyY_take (i := 6) (v := ?_) rfl (by kernel_rfl) (by kernel_rfl) (by kernel_rfl) (by kernel_rfl) (fun _ _ _ h => h) (Or.inl ⟨by rfl, ?_⟩) (by assumption) ?_
  rotate_left 1
  · (intro w' hSw; obtain ⟨s0, s1, s2⟩ := hSw; go_simp); try with_reducible rfl
  try simp only [Act.put, List.setIfInBounds_toArray, List.set_cons_zero, List.set_cons_succ, Nat.zero_add]
  refine wpAnyY_take (i := 7) (v := ?_) rfl (by kernel_rfl) (by kernel_rfl) (by kernel_rfl) (by kernel_rfl) (fun _ _ _ h => h) (Or.inl ⟨by rfl, ?_⟩) (by assumption) ?_
  rotate_left 1
  · (intro w' hSw; obtain ⟨s0, s1, s2⟩ := hSw; go_simp); try with_reducible rfl
  try simp only [Act.put, List.setIfInBounds_toArray, List.set_cons_zero, List.set_cons_succ, Nat.zero_add]
  refine wpAnyY_one (i := 8) rfl (by kernel_rfl) (fun K hK => ?_)
  go_simp
  refine (HRQ.out _).mono ?_
  rintro _ v2 ⟨rfl, hb⟩
  have MM2 : Hid (Mem w v2 ([.blk w.heap.size 24 #[.int .i64 m.next, .slice A n c], .blk (w.heap.size + 1) 74 #[.int .i64 ak, .int .i64 aa, .int .i64 ab, .int .i64 at2, .string wd, .string tx], .blk (w.heap.size + 2) 24 #[.int .i64 0, .slice none 0 0]])) := Lib.hid (MM.out.call hb)
  clear MM hb
  have MM := MM2
  clear MM2
  go_simp
  have hHeldv2 := HSM.out _ (MM.out.blk 0 rfl) (MM.out.blk 1 rfl)
  refine hK.out _ _ (fun _ => HSM.out _ (MM.out.blk 0 rfl) (MM.out.blk 1 rfl)) ?_
  clear hK K
  try simp only [Act.put, List.setIfInBounds_toArray, List.set_cons_zero, List.set_cons_succ, Nat.zero_add]
  refine wpAnyY_one0 (i := 9) rfl (by kernel_rfl) (by kernel_rfl) (fun K hK => ?_)
  go_simp
  refine hK.out _ _ ?_
  clear hK K
  try simp only [Act.put, List.setIfInBounds_toArray, List.set_cons_zero, List.set_cons_succ, Nat.zero_add]
  refine wpAnyY_done (by kernel_rfl) ?_ _
  clear hHeld hHeldv1 hHeldv2 HKD HRQ HSM
  go_upto_if 32 with fail
  go_cut [8, 9] (fun s8 s9 wx => s8 = .string ro ∧ s9 = .int .i64 pl ∧ Mem w wx ([.blk w.heap.size 24 #[.int .i64 m.next, .slice A n c], .blk (w.heap.size + 1) 74 #[.int .i64 ak, .int .i64 aa, .int .i64 ab, .int .i64 at2, .string wd, .string tx], .blk (w.heap.size + 2) 24 #[.int .i64 0, .slice none 0 0]]))
  case first =>
    by_cases hy0 : y = 0
    · obtain ⟨e1, e2⟩ := HR0.out hy0
      subst hy0
      have G1 := Lib.hid e1; have G2 := Lib.hid e2
      clear e1 e2 HR0 HR1
      go_wp2_with fail
      go_meet
      case rel => exact ⟨by rw [G1.out], by rw [G2.out], MM.out⟩
    · obtain ⟨e1, e2⟩ := HR1.out hy0
      have g1 : (y == 0) = false := by simp; exact hy0
      have G1 := Lib.hid e1; have G2 := Lib.hid e2
      clear e1 e2 hy0 HR0 HR1
      go_wp2_with fail
      go_meet
      case rel => exact ⟨by rw [G1.out], by rw [G2.out], MM.out⟩
  case rest =>
    obtain ⟨rfl, rfl, hm⟩ := hcut
    clear MM
    obtain ⟨c1, rfl⟩ : ∃ v : World, v = wc := ⟨_, rfl⟩
    have MM := Lib.hid hm
    clear hm HR0 HR1
    have mc0 := (MM.out.blk 0 rfl).cell 0
    have mc1 := (MM.out.blk 0 rfl).cell 1
    have mlt := (MM.out.blk 0 rfl).lt
    simp at mc0 mc1
    obtain ⟨g, hg⟩ : ∃ g, c1.heap.size = g := ⟨_, rfl⟩
    have HG : Hid (w.heap.size + 3 ≤ g) := Lib.hid (by have := (MM.out.blk 2 rfl).lt; omega)
    obtain ⟨c2, hu⟩ : ∃ z9 : World, c1.alloc (.cells #[.int .i64 m.next, .slice A n c] 24) = z9 := ⟨_, rfl⟩
    have MM2 : Hid (Mem w c2 ([.blk w.heap.size 24 #[.int .i64 m.next, .slice A n c], .blk (w.heap.size + 1) 74 #[.int .i64 ak, .int .i64 aa, .int .i64 ab, .int .i64 at2, .string wd, .string tx], .blk (w.heap.size + 2) 24 #[.int .i64 0, .slice none 0 0], .blk g 24 #[.int .i64 m.next, .slice A n c]])) := Lib.hid (by rw [← hu]; exact (MM.out.allocG hg #[.int .i64 m.next, .slice A n c] 24).pick0 [1, 2, 3, 0] _ (by decide) rfl)
    clear MM
    have MM := MM2
    clear MM2
    go_upto_region 7 with fail
    (try rw [hu])
    (try rw [hg])
    clear hu hg
    clear mc0 mc1 mlt
    have cc0 := (MM.out.blk 1 rfl).cell 0
    have clt := (MM.out.blk 1 rfl).lt
    simp at cc0
    go_wp2_with fail
    refine (HRK.out _).mono ?_
    rintro _ c3 ⟨rfl, hb⟩
    clear cc0 clt
    have MM2 : Hid (Mem w c3 ([.blk w.heap.size 24 #[.int .i64 m.next, .slice A n c], .blk (w.heap.size + 1) 74 #[.int .i64 ak, .int .i64 aa, .int .i64 ab, .int .i64 at2, .string wd, .string tx], .blk (w.heap.size + 2) 24 #[.int .i64 0, .slice none 0 0], .blk g 24 #[.int .i64 m.next, .slice A n c]])) := Lib.hid (MM.out.call hb)
    clear MM
    have MM := MM2
    clear MM2
    clear hb HRK
    go_upto_block 0 with fail
    go_cut [11] (fun s11 wx => ∃ (z : Int) (A1 : Option Addr) (n1 c1 : Nat), s11 = .int .i64 E ∧ Mem w wx [.blk w.heap.size 24 #[.int .i64 m.next, .slice A n c], .blk (w.heap.size + 1) 74 #[.int .i64 ak, .int .i64 aa, .int .i64 ab, .int .i64 at2, .string wd, .string tx], .blk (w.heap.size + 2) 24 #[.int .i64 0, .slice none 0 0], .blk g 24 #[.int .i64 z, .slice A1 n1 c1]] ∧ g + 1 ≤ wx.heap.size ∧ MadeAs wx (g + 1) E M z A1 n1 c1)
    case first =>
      rcases (show kd = 0 ∨ kd = 1 ∨ kd = 2 ∨ kd = 3 ∨ kd = 4 ∨ kd = 5 ∨ kd = 6 by omega) with rfl | rfl | rfl | rfl | rfl | rfl | rfl
      · have HE2 : Hid (addE m y ro pl sN = E) := Lib.hid HE.out.symm
        have HM2 := Lib.hid HM1.out
        clear HE HM1 HM0 HMOV HCPY HREM HPUT HAIM
        have mc0 := (MM.out.blk 0 rfl).cell 0
        have mc1 := (MM.out.blk 0 rfl).cell 1
        have mlt := (MM.out.blk 0 rfl).lt
        simp at mc0 mc1
        go_wp2_with fail
        refine (HADD.out _ MM.out.below).mono ?_
        rintro _ u2 ⟨⟨v, rfl, hres⟩, hb⟩
        clear mc0 mc1 mlt
        obtain ⟨k1, z, A1, n1, c1, rfl, hmd⟩ := add_made HCM.out hres
        clear hres HADD
        rw [HE2.out] at hmd ⊢
        have HMD := Lib.hid hmd
        have HGS : Hid (g + 1 ≤ c3.heap.size ∧ g + 1 ≤ u2.heap.size) := Lib.hid (by have := (MM.out.blk 3 rfl).lt; have := hb.size; omega)
        have MM2 : Hid (Mem w u2 ([.blk w.heap.size 24 #[.int .i64 m.next, .slice A n c], .blk (w.heap.size + 1) 74 #[.int .i64 ak, .int .i64 aa, .int .i64 ab, .int .i64 at2, .string wd, .string tx], .blk (w.heap.size + 2) 24 #[.int .i64 0, .slice none 0 0], .blk g 24 #[.int .i64 m.next, .slice A n c]])) := Lib.hid (MM.out.call hb)
        clear MM
        have MM := MM2
        clear MM2
        clear hb hmd HE2
        have gc0 := (MM.out.blk 3 rfl).cell 0
        have gc1 := (MM.out.blk 3 rfl).cell 1
        have gf0 := (MM.out.blk 3 rfl).frozen 0
        have gf1 := (MM.out.blk 3 rfl).frozen 1
        have glt := (MM.out.blk 3 rfl).lt
        simp at gc0 gc1
        go_wp2_with fail
        go_meet
        case rel =>
          refine ⟨z, A1, n1, c1, rfl, (MM.out.set_ 3 rfl 0 (.int .i64 z)).set_ 3 rfl 1 (.slice A1 n1 c1), by simpa using HGS.out.2, HMD.out.to HM2.out HGS.out.1 (fun b h1 _ => ?_)⟩
          exact (Below.heap_setCell _ _ _ _ (by show b ≠ g; omega)).trans (Below.heap_setCell _ _ _ _ (by show b ≠ g; omega))
      · have HE2 : Hid (addE m y ro pl sN = E) := Lib.hid HE.out.symm
        have HM2 := Lib.hid HM1.out
        clear HE HM1 HM0 HMOV HCPY HREM HPUT HAIM
        have mc0 := (MM.out.blk 0 rfl).cell 0
        have mc1 := (MM.out.blk 0 rfl).cell 1
        have mlt := (MM.out.blk 0 rfl).lt
        simp at mc0 mc1
        go_wp2_with fail
        refine (HADD.out _ MM.out.below).mono ?_
        rintro _ u2 ⟨⟨v, rfl, hres⟩, hb⟩
        clear mc0 mc1 mlt
        obtain ⟨k1, z, A1, n1, c1, rfl, hmd⟩ := add_made HCM.out hres
        clear hres HADD
        rw [HE2.out] at hmd ⊢
        have HMD := Lib.hid hmd
        have HGS : Hid (g + 1 ≤ c3.heap.size ∧ g + 1 ≤ u2.heap.size) := Lib.hid (by have := (MM.out.blk 3 rfl).lt; have := hb.size; omega)
        have MM2 : Hid (Mem w u2 ([.blk w.heap.size 24 #[.int .i64 m.next, .slice A n c], .blk (w.heap.size + 1) 74 #[.int .i64 ak, .int .i64 aa, .int .i64 ab, .int .i64 at2, .string wd, .string tx], .blk (w.heap.size + 2) 24 #[.int .i64 0, .slice none 0 0], .blk g 24 #[.int .i64 m.next, .slice A n c]])) := Lib.hid (MM.out.call hb)
        clear MM
        have MM := MM2
        clear MM2
        clear hb hmd HE2
        have gc0 := (MM.out.blk 3 rfl).cell 0
        have gc1 := (MM.out.blk 3 rfl).cell 1
        have gf0 := (MM.out.blk 3 rfl).frozen 0
        have gf1 := (MM.out.blk 3 rfl).frozen 1
        have glt := (MM.out.blk 3 rfl).lt
        simp at gc0 gc1
        go_wp2_with fail
        go_meet
        case rel =>
          refine ⟨z, A1, n1, c1, rfl, (MM.out.set_ 3 rfl 0 (.int .i64 z)).set_ 3 rfl 1 (.slice A1 n1 c1), by simpa using HGS.out.2, HMD.out.to HM2.out HGS.out.1 (fun b h1 _ => ?_)⟩
          exact (Below.heap_setCell _ _ _ _ (by show b ≠ g; omega)).trans (Below.heap_setCell _ _ _ _ (by show b ≠ g; omega))
      · have HE2 : Hid (moveE m x y ro pl = E) := Lib.hid HE.out.symm
        have HM2 := Lib.hid HM1.out
        clear HE HM1 HM0 HADD HCPY HREM HPUT HAIM
        have mc0 := (MM.out.blk 0 rfl).cell 0
        have mc1 := (MM.out.blk 0 rfl).cell 1
        have mlt := (MM.out.blk 0 rfl).lt
        simp at mc0 mc1
        go_wp2_with fail
        refine (HMOV.out _ MM.out.below).mono ?_
        rintro _ u2 ⟨⟨v, rfl, hres⟩, hb⟩
        clear mc0 mc1 mlt
        obtain ⟨z, A1, n1, c1, rfl, hmd⟩ := res_made hres
        clear hres HMOV
        rw [HE2.out] at hmd ⊢
        have HMD := Lib.hid hmd
        have HGS : Hid (g + 1 ≤ c3.heap.size ∧ g + 1 ≤ u2.heap.size) := Lib.hid (by have := (MM.out.blk 3 rfl).lt; have := hb.size; omega)
        have MM2 : Hid (Mem w u2 ([.blk w.heap.size 24 #[.int .i64 m.next, .slice A n c], .blk (w.heap.size + 1) 74 #[.int .i64 ak, .int .i64 aa, .int .i64 ab, .int .i64 at2, .string wd, .string tx], .blk (w.heap.size + 2) 24 #[.int .i64 0, .slice none 0 0], .blk g 24 #[.int .i64 m.next, .slice A n c]])) := Lib.hid (MM.out.call hb)
        clear MM
        have MM := MM2
        clear MM2
        clear hb hmd HE2
        have gc0 := (MM.out.blk 3 rfl).cell 0
        have gc1 := (MM.out.blk 3 rfl).cell 1
        have gf0 := (MM.out.blk 3 rfl).frozen 0
        have gf1 := (MM.out.blk 3 rfl).frozen 1
        have glt := (MM.out.blk 3 rfl).lt
        simp at gc0 gc1
        go_wp2_with fail
        go_meet
        case rel =>
          refine ⟨z, A1, n1, c1, rfl, (MM.out.set_ 3 rfl 0 (.int .i64 z)).set_ 3 rfl 1 (.slice A1 n1 c1), by simpa using HGS.out.2, HMD.out.to HM2.out HGS.out.1 (fun b h1 _ => ?_)⟩
          exact (Below.heap_setCell _ _ _ _ (by show b ≠ g; omega)).trans (Below.heap_setCell _ _ _ _ (by show b ≠ g; omega))
      · have HE2 : Hid (copyE m x y ro pl = E) := Lib.hid HE.out.symm
        have HM2 := Lib.hid HM1.out
        clear HE HM1 HM0 HADD HMOV HREM HPUT HAIM
        have mc0 := (MM.out.blk 0 rfl).cell 0
        have mc1 := (MM.out.blk 0 rfl).cell 1
        have mlt := (MM.out.blk 0 rfl).lt
        simp at mc0 mc1
        go_wp2_with fail
        refine (HCPY.out _ MM.out.below).mono ?_
        rintro _ u2 ⟨⟨v, rfl, hres⟩, hb⟩
        clear mc0 mc1 mlt
        obtain ⟨k1, z, A1, n1, c1, rfl, hmd⟩ := copy_made hres
        clear hres HCPY
        rw [HE2.out] at hmd ⊢
        have HMD := Lib.hid hmd
        have HGS : Hid (g + 1 ≤ c3.heap.size ∧ g + 1 ≤ u2.heap.size) := Lib.hid (by have := (MM.out.blk 3 rfl).lt; have := hb.size; omega)
        have MM2 : Hid (Mem w u2 ([.blk w.heap.size 24 #[.int .i64 m.next, .slice A n c], .blk (w.heap.size + 1) 74 #[.int .i64 ak, .int .i64 aa, .int .i64 ab, .int .i64 at2, .string wd, .string tx], .blk (w.heap.size + 2) 24 #[.int .i64 0, .slice none 0 0], .blk g 24 #[.int .i64 m.next, .slice A n c]])) := Lib.hid (MM.out.call hb)
        clear MM
        have MM := MM2
        clear MM2
        clear hb hmd HE2
        have gc0 := (MM.out.blk 3 rfl).cell 0
        have gc1 := (MM.out.blk 3 rfl).cell 1
        have gf0 := (MM.out.blk 3 rfl).frozen 0
        have gf1 := (MM.out.blk 3 rfl).frozen 1
        have glt := (MM.out.blk 3 rfl).lt
        simp at gc0 gc1
        go_wp2_with fail
        go_meet
        case rel =>
          refine ⟨z, A1, n1, c1, rfl, (MM.out.set_ 3 rfl 0 (.int .i64 z)).set_ 3 rfl 1 (.slice A1 n1 c1), by simpa using HGS.out.2, HMD.out.to HM2.out HGS.out.1 (fun b h1 _ => ?_)⟩
          exact (Below.heap_setCell _ _ _ _ (by show b ≠ g; omega)).trans (Below.heap_setCell _ _ _ _ (by show b ≠ g; omega))
      · have HE2 : Hid (removeE m x = E) := Lib.hid HE.out.symm
        have HM2 := Lib.hid HM1.out
        clear HE HM1 HM0 HADD HMOV HCPY HPUT HAIM
        have mc0 := (MM.out.blk 0 rfl).cell 0
        have mc1 := (MM.out.blk 0 rfl).cell 1
        have mlt := (MM.out.blk 0 rfl).lt
        simp at mc0 mc1
        go_wp2_with fail
        refine (HREM.out _ MM.out.below).mono ?_
        rintro _ u2 ⟨⟨v, rfl, hres⟩, hb⟩
        clear mc0 mc1 mlt
        obtain ⟨z, A1, n1, c1, rfl, hmd⟩ := res_made hres
        clear hres HREM
        rw [HE2.out] at hmd ⊢
        have HMD := Lib.hid hmd
        have HGS : Hid (g + 1 ≤ c3.heap.size ∧ g + 1 ≤ u2.heap.size) := Lib.hid (by have := (MM.out.blk 3 rfl).lt; have := hb.size; omega)
        have MM2 : Hid (Mem w u2 ([.blk w.heap.size 24 #[.int .i64 m.next, .slice A n c], .blk (w.heap.size + 1) 74 #[.int .i64 ak, .int .i64 aa, .int .i64 ab, .int .i64 at2, .string wd, .string tx], .blk (w.heap.size + 2) 24 #[.int .i64 0, .slice none 0 0], .blk g 24 #[.int .i64 m.next, .slice A n c]])) := Lib.hid (MM.out.call hb)
        clear MM
        have MM := MM2
        clear MM2
        clear hb hmd HE2
        have gc0 := (MM.out.blk 3 rfl).cell 0
        have gc1 := (MM.out.blk 3 rfl).cell 1
        have gf0 := (MM.out.blk 3 rfl).frozen 0
        have gf1 := (MM.out.blk 3 rfl).frozen 1
        have glt := (MM.out.blk 3 rfl).lt
        simp at gc0 gc1
        go_wp2_with fail
        go_meet
        case rel =>
          refine ⟨z, A1, n1, c1, rfl, (MM.out.set_ 3 rfl 0 (.int .i64 z)).set_ 3 rfl 1 (.slice A1 n1 c1), by simpa using HGS.out.2, HMD.out.to HM2.out HGS.out.1 (fun b h1 _ => ?_)⟩
          exact (Below.heap_setCell _ _ _ _ (by show b ≠ g; omega)).trans (Below.heap_setCell _ _ _ _ (by show b ≠ g; omega))
      · have HE2 : Hid (setE m wd (4096 < tx.size) (atI m.nodes x < 0) = E) := Lib.hid HE.out.symm
        have HM2 := Lib.hid HM1.out
        clear HE HM1 HM0 HADD HMOV HCPY HREM HAIM
        have mc0 := (MM.out.blk 0 rfl).cell 0
        have mc1 := (MM.out.blk 0 rfl).cell 1
        have mlt := (MM.out.blk 0 rfl).lt
        simp at mc0 mc1
        have cc4 := (MM.out.blk 1 rfl).cell 4
        have cc5 := (MM.out.blk 1 rfl).cell 5
        have clt := (MM.out.blk 1 rfl).lt
        simp at cc4 cc5
        go_wp2_with fail
        refine (HPUT.out _ MM.out.below).mono ?_
        rintro _ u2 ⟨⟨v, rfl, hres⟩, hb⟩
        clear mc0 mc1 mlt cc4 cc5 clt
        obtain ⟨z, A1, n1, c1, rfl, hmd⟩ := set_made HCM.out hres
        clear hres HPUT
        rw [HE2.out] at hmd ⊢
        have HMD := Lib.hid hmd
        have HGS : Hid (g + 1 ≤ c3.heap.size ∧ g + 1 ≤ u2.heap.size) := Lib.hid (by have := (MM.out.blk 3 rfl).lt; have := hb.size; omega)
        have MM2 : Hid (Mem w u2 ([.blk w.heap.size 24 #[.int .i64 m.next, .slice A n c], .blk (w.heap.size + 1) 74 #[.int .i64 ak, .int .i64 aa, .int .i64 ab, .int .i64 at2, .string wd, .string tx], .blk (w.heap.size + 2) 24 #[.int .i64 0, .slice none 0 0], .blk g 24 #[.int .i64 m.next, .slice A n c]])) := Lib.hid (MM.out.call hb)
        clear MM
        have MM := MM2
        clear MM2
        clear hb hmd HE2
        have gc0 := (MM.out.blk 3 rfl).cell 0
        have gc1 := (MM.out.blk 3 rfl).cell 1
        have gf0 := (MM.out.blk 3 rfl).frozen 0
        have gf1 := (MM.out.blk 3 rfl).frozen 1
        have glt := (MM.out.blk 3 rfl).lt
        simp at gc0 gc1
        go_wp2_with fail
        go_meet
        case rel =>
          refine ⟨z, A1, n1, c1, rfl, (MM.out.set_ 3 rfl 0 (.int .i64 z)).set_ 3 rfl 1 (.slice A1 n1 c1), by simpa using HGS.out.2, HMD.out.to HM2.out HGS.out.1 (fun b h1 _ => ?_)⟩
          exact (Below.heap_setCell _ _ _ _ (by show b ≠ g; omega)).trans (Below.heap_setCell _ _ _ _ (by show b ≠ g; omega))
      · have HE2 : Hid (setE m wd False (atI m.nodes x < 0 ∨ atI m.nodes y < 0) = E) := Lib.hid HE.out.symm
        have HM2 := Lib.hid HM1.out
        clear HE HM1 HM0 HADD HMOV HCPY HREM HPUT
        have mc0 := (MM.out.blk 0 rfl).cell 0
        have mc1 := (MM.out.blk 0 rfl).cell 1
        have mlt := (MM.out.blk 0 rfl).lt
        simp at mc0 mc1
        have cc4 := (MM.out.blk 1 rfl).cell 4
        have clt := (MM.out.blk 1 rfl).lt
        simp at cc4
        go_wp2_with fail
        refine (HAIM.out _ MM.out.below).mono ?_
        rintro _ u2 ⟨⟨v, rfl, hres⟩, hb⟩
        clear mc0 mc1 mlt cc4 clt
        obtain ⟨z, A1, n1, c1, rfl, hmd⟩ := set_made HCM.out hres
        clear hres HAIM
        rw [HE2.out] at hmd ⊢
        have HMD := Lib.hid hmd
        have HGS : Hid (g + 1 ≤ c3.heap.size ∧ g + 1 ≤ u2.heap.size) := Lib.hid (by have := (MM.out.blk 3 rfl).lt; have := hb.size; omega)
        have MM2 : Hid (Mem w u2 ([.blk w.heap.size 24 #[.int .i64 m.next, .slice A n c], .blk (w.heap.size + 1) 74 #[.int .i64 ak, .int .i64 aa, .int .i64 ab, .int .i64 at2, .string wd, .string tx], .blk (w.heap.size + 2) 24 #[.int .i64 0, .slice none 0 0], .blk g 24 #[.int .i64 m.next, .slice A n c]])) := Lib.hid (MM.out.call hb)
        clear MM
        have MM := MM2
        clear MM2
        clear hb hmd HE2
        have gc0 := (MM.out.blk 3 rfl).cell 0
        have gc1 := (MM.out.blk 3 rfl).cell 1
        have gf0 := (MM.out.blk 3 rfl).frozen 0
        have gf1 := (MM.out.blk 3 rfl).frozen 1
        have glt := (MM.out.blk 3 rfl).lt
        simp at gc0 gc1
        go_wp2_with fail
        go_meet
        case rel =>
          refine ⟨z, A1, n1, c1, rfl, (MM.out.set_ 3 rfl 0 (.int .i64 z)).set_ 3 rfl 1 (.slice A1 n1 c1), by simpa using HGS.out.2, HMD.out.to HM2.out HGS.out.1 (fun b h1 _ => ?_)⟩
          exact (Below.heap_setCell _ _ _ _ (by show b ≠ g; omega)).trans (Below.heap_setCell _ _ _ _ (by show b ≠ g; omega))
    case rest =>
      obtain ⟨z, A1, n1, c1', rfl, hm, hgs, hmd⟩ := hcut
      clear MM
      obtain ⟨c4, rfl⟩ : ∃ v : World, v = wc := ⟨_, rfl⟩
      have MM := Lib.hid hm
      have HMD := Lib.hid hmd
      clear hm hmd HE HM1 HADD HMOV HCPY HREM HPUT HAIM hkd7
      by_cases hE0 : E = 0
      · subst hE0
        obtain ⟨l, hzz, ho, hl⟩ : ∃ l, z = M.next ∧ OwnM c4 (g + 1) (.slice A1 n1 c1') l ∧ l.map LN.n = M.nodes := by
          rcases HMD.out with h | ⟨_, e, l, h1, h2⟩
          · exact absurd rfl h
          · exact ⟨l, e, h1, h2⟩
        have HO := Lib.hid ho; have HL := Lib.hid hl; have HZZ := Lib.hid hzz
        clear ho hl hzz HMD HM0
        have gc0 := (MM.out.blk 3 rfl).cell 0
        have gc1 := (MM.out.blk 3 rfl).cell 1
        have glt := (MM.out.blk 3 rfl).lt
        simp at gc0 gc1
        have rc0 := (MM.out.blk 2 rfl).cell 0
        have rc1 := (MM.out.blk 2 rfl).cell 1
        have rf0 := (MM.out.blk 2 rfl).frozen 0
        have rf1 := (MM.out.blk 2 rfl).frozen 1
        have rlt := (MM.out.blk 2 rfl).lt
        simp at rc0 rc1
        have HRR := Lib.hid (MM.out.blk 2 rfl)
        go_wp2_with fail
        have hyS := (HRR.out.set_ 0 (.int .i64 z)).set_ 1 (.slice A1 n1 c1')
        have f0 := hyS.cell 0; have f1 := hyS.cell 1
        simp at f0 f1
        have HBW := Lib.hid ((MM.out.below.setCell (p := ⟨w.heap.size + 2, 0, none⟩) (by show w.heap.size ≤ w.heap.size + 2; omega) (.int .i64 z)).setCell (p := ⟨w.heap.size + 2, 1, none⟩) (by show w.heap.size ≤ w.heap.size + 2; omega) (.slice A1 n1 c1'))
        refine bodyPost_ret (v := .tuple #[.agg #[.int .i64 z, .slice A1 n1 c1'], .int .i64 0]) (by simp [results, Try.results54, go_sem, f0, f1]) rfl ⟨⟨_, rfl, Or.inr ⟨rfl, _, l, by rw [HZZ.out], (HO.out.keep (fun b h1 _ => ?_)).weaken (by have := HG.out; omega), HL.out⟩⟩, HBW.out⟩
        have hg3 := HG.out
        exact (Below.heap_setCell _ _ _ _ (by show b ≠ w.heap.size + 2; omega)).trans (Below.heap_setCell _ _ _ _ (by show b ≠ w.heap.size + 2; omega))
      · have g1 : (E != 0) = true := by simp; exact hE0
        have HEN := Lib.hid hE0
        clear hE0 HMD
        have mc0 := (MM.out.blk 0 rfl).cell 0
        have mc1 := (MM.out.blk 0 rfl).cell 1
        have mlt := (MM.out.blk 0 rfl).lt
        simp at mc0 mc1
        have rc0 := (MM.out.blk 2 rfl).cell 0
        have rc1 := (MM.out.blk 2 rfl).cell 1
        have rf0 := (MM.out.blk 2 rfl).frozen 0
        have rf1 := (MM.out.blk 2 rfl).frozen 1
        have rlt := (MM.out.blk 2 rfl).lt
        simp at rc0 rc1
        have HRR := Lib.hid (MM.out.blk 2 rfl)
        go_wp2_with fail
        have hyS := (HRR.out.set_ 0 (.int .i64 m.next)).set_ 1 (.slice A n c)
        have f0 := hyS.cell 0; have f1 := hyS.cell 1
        simp at f0 f1
        have HBW := Lib.hid ((MM.out.below.setCell (p := ⟨w.heap.size + 2, 0, none⟩) (by show w.heap.size ≤ w.heap.size + 2; omega) (.int .i64 m.next)).setCell (p := ⟨w.heap.size + 2, 1, none⟩) (by show w.heap.size ≤ w.heap.size + 2; omega) (.slice A n c))
        exact bodyPost_ret (v := .tuple #[.agg #[.int .i64 m.next, .slice A n c], .int .i64 E]) (by simp [results, Try.results54, go_sem, f0, f1]) rfl ⟨⟨_, rfl, Or.inl ⟨HEN.out, HM0.out HEN.out, by rw [HN.out]⟩⟩, HBW.out⟩
end Go.Proofs.Ytmafhaadcjgcbaa
end
section
namespace Go.Proofs.Ytmafhaadcjgcbaa
open Go Go.RowKit

/-- what Find answers: the node as a value of its own, or nothing -/
def FoundAs (w' : World) (F : Nat → Prop) (m : AModel) (id : Int) (v : Value) : Prop :=
  (∃ x ∈ m.nodes, HasN m id ∧ x.id = id ∧ ∃ vp vk vr, v = .tuple #[.agg #[.int .i64 x.id, .string x.concept, .int .i64 x.parent, .string x.role, vp, vk, vr], .bool true] ∧ IsRow 2 EProp w' F vp x.props ∧ IsRow 1 EInt w' F vk x.kids ∧ IsRow 2 ERef w' F vr x.refs ∧ FreeV w' vp ∧ FreeV w' vk ∧ FreeV w' vr) ∨
  (¬ HasN m id ∧ v = .tuple #[.agg #[.int .i64 0, .string ⟨#[]⟩, .int .i64 0, .string ⟨#[]⟩, .slice none 0 0, .slice none 0 0, .slice none 0 0], .bool false])

set_option maxRecDepth 100000 in
set_option maxHeartbeats 2000000 in
theorem findA_any (A : Option Addr) (c : Nat) (m : AModel) (w : World) (F : Nat → Prop) (hF : ∀ b, F b → b < w.heap.size) (h : RowOf 7 ENode w F A m.nodes) (hz : ∀ x ∈ m.nodes, NodeOK x) (hz' : ∀ x ∈ m.nodes, LensOK x) (hl : m.nodes.length ≤ 9223372036854775807) (id : Int) (hid : InR id) :
    Calls Try.prog 22 #[.agg #[.int .i64 m.next, .slice A m.nodes.length c], .int .i64 id] w fun e w' => (∃ v, e = .returned v ∧ FoundAs w' (fun b => w.heap.size ≤ b ∧ b < w'.heap.size) m id v) ∧ Below w.heap.size w w' := by
  have HBA := Lib.hid (((Below.refl w.heap.size w).alloc (Nat.le_refl _) (.cells #[.int .i64 m.next, .slice A m.nodes.length c] 24)).alloc (by simp) (.cells #[.int .i64 0, .string ⟨#[]⟩, .int .i64 0, .string ⟨#[]⟩, .slice none 0 0, .slice none 0 0, .slice none 0 0] 38))
  have HC := Lib.hid (check_any A c m _ F (fun b hb => Nat.lt_of_lt_of_le (hF b hb) HBA.out.size) (h.keep ENode.stays (Keep.below HBA.out hF) (fun _ h => h)) hz hl)
  have HH := Lib.hid h
  have HZ := Lib.hid hz
  have HZ' := Lib.hid hz'
  clear h hz hz'
  by_cases hc : CheckM m
  · have HC2 := Lib.hid (int_is (checkI_yes hc) HC.out)
    have HCM := Lib.hid hc
    have HS := Lib.hid hc.1.srtB
    have hl4 : m.nodes.length ≤ 4096 := hc.1.1.2.2
    clear hc HC
    go_enter Try.func22, Try.ntmps22
    go_wp2_with fail
    refine HC2.out.mono ?_
    rintro _ w2 ⟨rfl, hb2⟩
    have HB2 := Lib.hid (HBA.out.trans (hb2.mono HBA.out.size))
    have HM2 := Lib.hid (((Blk.new w 24 #[.int .i64 m.next, .slice A m.nodes.length c]).alloc (.cells #[.int .i64 0, .string ⟨#[]⟩, .int .i64 0, .string ⟨#[]⟩, .slice none 0 0, .slice none 0 0, .slice none 0 0] 38)).below hb2 (by simp; omega))
    have m1 := HM2.out.cell 1; have m0 := HM2.out.cell 0
    have hmlt := HM2.out.lt
    simp at m0 m1
    have HR2 := Lib.hid ((Blk.new' (w := w.alloc (.cells #[.int .i64 m.next, .slice A m.nodes.length c] 24)) (g := w.heap.size + 1) (t := 38) (cs := #[.int .i64 0, .string ⟨#[]⟩, .int .i64 0, .string ⟨#[]⟩, .slice none 0 0, .slice none 0 0, .slice none 0 0]) (by simp)).below hb2 (by simp))
    have hrlt := HR2.out.lt
    clear hb2 HC2 HBA
    rcases atI_cases m.nodes id with ⟨j, hj, hj1, hj2⟩ | ⟨hj1, hj2⟩
    · have HAT := Lib.hid hj2
      obtain ⟨x, hx⟩ : ∃ x, m.nodes[j] = x := ⟨_, rfl⟩
      have hxm : x ∈ m.nodes := by rw [← hx]; exact List.getElem_mem hj
      have hxi : x.id = id := by rw [← hx]; exact hj1
      subst hxi
      have HX := Lib.hid hxm
      clear hj1 hj2 hxm
      have g0 : decide ((0 : Int) ≤ (j : Int)) = true := decide_eq_true (by omega)
      go_wp2_with fail
      refine (place_any A c m.next x.id m.nodes w2 F (fun b hb => Nat.lt_of_lt_of_le (hF b hb) HB2.out.size) (HH.out.keep ENode.stays (Keep.below HB2.out hF) (fun _ h => h)) HS.out hid (by omega)).mono ?_
      rintro _ w3 ⟨rfl, hb3⟩
      rw [HAT.out]
      have HB3 := Lib.hid (HB2.out.trans (hb3.mono HB2.out.size))
      have HM3 := Lib.hid (HM2.out.below hb3 hmlt)
      have HR3 := Lib.hid (HR2.out.below hb3 hrlt)
      have m1 := HM3.out.cell 1; have m0 := HM3.out.cell 0
      have hmlt3 := HM3.out.lt
      have hrlt3 := HR3.out.lt
      simp at m0 m1
      clear hb3
      obtain ⟨b, off, Sp, cp, Sk, ck, Sr, cr, hA, hb, n0, n1, n2, n3, n4, n5, n6, hp, hk, hr⟩ := node_at (HH.out.keep ENode.stays (Keep.below HB3.out hF) (fun _ h => h)) hj
      rw [hx] at n0 n1 n2 n3 n4 n5 n6 hp hk hr
      subst hA
      have HP := Lib.hid hp; have HK := Lib.hid hk; have HRR := Lib.hid hr; have HBF := Lib.hid hb
      clear hp hk hr hx hb
      go_wp2_with fail
      refine (own_any x Sp Sk Sr cp ck cr w3 F (fun b hb => Nat.lt_of_lt_of_le (hF b hb) HB3.out.size) (HZ'.out x HX.out) HP.out.2.2 HK.out.2.2 HRR.out.2.2).mono ?_
      rintro _ w4 ⟨_, _, _, rfl, ⟨P1, c1, rfl, p1, p2, p3⟩, ⟨K1, e1, rfl, q1, q2, q3⟩, ⟨R1, d1, rfl, s1, s2, s3⟩, hb4, hf1, hf2, hf3, _, _⟩
      have HP4 := Lib.hid p3; have HK4 := Lib.hid q3; have HR4 := Lib.hid s3; have HF1 := Lib.hid hf1; have HF2 := Lib.hid hf2; have HF3 := Lib.hid hf3
      have HB4 := Lib.hid (HB3.out.trans (hb4.mono HB3.out.size))
      have HY4 := Lib.hid (HR3.out.below hb4 hrlt3)
      have HE := Lib.hid (show HasN m x.id from ⟨HCM.out, x, HX.out, rfl⟩)
      clear p3 q3 s3 hb4 hf1 hf2 hf3
      have t0 := HY4.out.frozen 0; have t1 := HY4.out.frozen 1; have t2 := HY4.out.frozen 2; have t3 := HY4.out.frozen 3; have t4 := HY4.out.frozen 4; have t5 := HY4.out.frozen 5; have t6 := HY4.out.frozen 6
      have r0 := HY4.out.cell 0; have r1 := HY4.out.cell 1; have r2 := HY4.out.cell 2; have r3 := HY4.out.cell 3; have r4 := HY4.out.cell 4; have r5 := HY4.out.cell 5; have r6 := HY4.out.cell 6
      simp at r0 r1 r2 r3 r4 r5 r6
      go_wp2_with fail
      have hyS := (((((((HY4.out.set_ 0 (.int .i64 x.id)).set_ 1 (.string x.concept)).set_ 2 (.int .i64 x.parent)).set_ 3 (.string x.role)).set_ 4 (.slice P1 x.props.length c1)).set_ 5 (.slice K1 x.kids.length e1)).set_ 6 (.slice R1 x.refs.length d1))
      have f0 := hyS.cell 0; have f1 := hyS.cell 1; have f2 := hyS.cell 2; have f3 := hyS.cell 3; have f4 := hyS.cell 4; have f5 := hyS.cell 5; have f6 := hyS.cell 6
      simp at f0 f1 f2 f3 f4 f5 f6
      have HBW := Lib.hid (((((((HB4.out.setCell (p := ⟨w.heap.size + 1, 0, none⟩) (Nat.le_succ _) (.int .i64 x.id)).setCell (p := ⟨w.heap.size + 1, 1, none⟩) (Nat.le_succ _) (.string x.concept)).setCell (p := ⟨w.heap.size + 1, 2, none⟩) (Nat.le_succ _) (.int .i64 x.parent)).setCell (p := ⟨w.heap.size + 1, 3, none⟩) (Nat.le_succ _) (.string x.role)).setCell (p := ⟨w.heap.size + 1, 4, none⟩) (Nat.le_succ _) (.slice P1 x.props.length c1)).setCell (p := ⟨w.heap.size + 1, 5, none⟩) (Nat.le_succ _) (.slice K1 x.kids.length e1)).setCell (p := ⟨w.heap.size + 1, 6, none⟩) (Nat.le_succ _) (.slice R1 x.refs.length d1))
      have hz3 := HB3.out.size
      refine bodyPost_ret (v := .tuple #[.agg #[.int .i64 x.id, .string x.concept, .int .i64 x.parent, .string x.role, .slice P1 x.props.length c1, .slice K1 x.kids.length e1, .slice R1 x.refs.length d1], .bool true]) (by simp [results, Try.results22, go_sem, f0, f1, f2, f3, f4, f5, f6]) rfl ⟨⟨_, rfl, Or.inl ⟨x, HX.out, HE.out, rfl, _, _, _, rfl, ⟨_, _, rfl, p1, p2, HP4.out.keep EProp.stays (fun q hq => ?_) (fun b hb => ?_)⟩, ⟨_, _, rfl, q1, q2, HK4.out.keep EInt.stays (fun q hq => ?_) (fun b hb => ?_)⟩, ⟨_, _, rfl, s1, s2, HR4.out.keep ERef.stays (fun q hq => ?_) (fun b hb => ?_)⟩, (((((((HF1.out.set_ _ _).set_ _ _).set_ _ _).set_ _ _).set_ _ _).set_ _ _).set_ _ _), (((((((HF2.out.set_ _ _).set_ _ _).set_ _ _).set_ _ _).set_ _ _).set_ _ _).set_ _ _), (((((((HF3.out.set_ _ _).set_ _ _).set_ _ _).set_ _ _).set_ _ _).set_ _ _).set_ _ _)⟩⟩, HBW.out⟩
      all_goals first
        | exact World.cell?_of_block ((Below.heap_setCell _ _ _ _ (by show q.block ≠ w.heap.size + 1; omega)).trans ((Below.heap_setCell _ _ _ _ (by show q.block ≠ w.heap.size + 1; omega)).trans ((Below.heap_setCell _ _ _ _ (by show q.block ≠ w.heap.size + 1; omega)).trans ((Below.heap_setCell _ _ _ _ (by show q.block ≠ w.heap.size + 1; omega)).trans ((Below.heap_setCell _ _ _ _ (by show q.block ≠ w.heap.size + 1; omega)).trans ((Below.heap_setCell _ _ _ _ (by show q.block ≠ w.heap.size + 1; omega)).trans (Below.heap_setCell _ _ _ _ (by show q.block ≠ w.heap.size + 1; omega))))))))
        | exact ⟨by omega, by simpa using hb.2⟩
    · have E := Lib.hid (none_has hj1)
      have HAT := Lib.hid hj2
      clear hj1 hj2
      go_wp2_with fail
      refine (place_any A c m.next id m.nodes w2 F (fun b hb => Nat.lt_of_lt_of_le (hF b hb) HB2.out.size) (HH.out.keep ENode.stays (Keep.below HB2.out hF) (fun _ h => h)) HS.out hid (by omega)).mono ?_
      rintro _ w3 ⟨rfl, hb3⟩
      rw [HAT.out]
      have HB3 := Lib.hid (HB2.out.trans (hb3.mono HB2.out.size))
      have HR3 := Lib.hid (HR2.out.below hb3 hrlt)
      have t0 := HR3.out.frozen 0; have t1 := HR3.out.frozen 1; have t2 := HR3.out.frozen 2; have t3 := HR3.out.frozen 3; have t4 := HR3.out.frozen 4; have t5 := HR3.out.frozen 5; have t6 := HR3.out.frozen 6
      have r0 := HR3.out.cell 0; have r1 := HR3.out.cell 1; have r2 := HR3.out.cell 2; have r3 := HR3.out.cell 3; have r4 := HR3.out.cell 4; have r5 := HR3.out.cell 5; have r6 := HR3.out.cell 6
      simp at r0 r1 r2 r3 r4 r5 r6
      clear hb3
      go_wp2_with fail
      have hyS := (((((((HR3.out.set_ 0 (.int .i64 0)).set_ 1 (.string ⟨#[]⟩)).set_ 2 (.int .i64 0)).set_ 3 (.string ⟨#[]⟩)).set_ 4 (.slice none 0 0)).set_ 5 (.slice none 0 0)).set_ 6 (.slice none 0 0))
      have f0 := hyS.cell 0; have f1 := hyS.cell 1; have f2 := hyS.cell 2; have f3 := hyS.cell 3; have f4 := hyS.cell 4; have f5 := hyS.cell 5; have f6 := hyS.cell 6
      simp at f0 f1 f2 f3 f4 f5 f6
      have HBW := Lib.hid (((((((HB3.out.setCell (p := ⟨w.heap.size + 1, 0, none⟩) (Nat.le_succ _) (.int .i64 0)).setCell (p := ⟨w.heap.size + 1, 1, none⟩) (Nat.le_succ _) (.string ⟨#[]⟩)).setCell (p := ⟨w.heap.size + 1, 2, none⟩) (Nat.le_succ _) (.int .i64 0)).setCell (p := ⟨w.heap.size + 1, 3, none⟩) (Nat.le_succ _) (.string ⟨#[]⟩)).setCell (p := ⟨w.heap.size + 1, 4, none⟩) (Nat.le_succ _) (.slice none 0 0)).setCell (p := ⟨w.heap.size + 1, 5, none⟩) (Nat.le_succ _) (.slice none 0 0)).setCell (p := ⟨w.heap.size + 1, 6, none⟩) (Nat.le_succ _) (.slice none 0 0))
      exact bodyPost_ret (v := .tuple #[.agg #[.int .i64 0, .string ⟨#[]⟩, .int .i64 0, .string ⟨#[]⟩, .slice none 0 0, .slice none 0 0, .slice none 0 0], .bool false]) (by simp [results, Try.results22, go_sem, f0, f1, f2, f3, f4, f5, f6]) rfl ⟨⟨_, rfl, Or.inr ⟨E.out, rfl⟩⟩, HBW.out⟩
  · have HC2 := Lib.hid (int_is (checkI_no hc) HC.out)
    have E := Lib.hid (show ¬ HasN m id from fun h => hc h.1)
    clear hc HC
    go_enter Try.func22, Try.ntmps22
    go_wp2_with fail
    refine HC2.out.mono ?_
    rintro _ w2 ⟨rfl, hb2⟩
    have HB2 := Lib.hid (HBA.out.trans (hb2.mono HBA.out.size))
    have HR2 := Lib.hid ((Blk.new' (w := w.alloc (.cells #[.int .i64 m.next, .slice A m.nodes.length c] 24)) (g := w.heap.size + 1) (t := 38) (cs := #[.int .i64 0, .string ⟨#[]⟩, .int .i64 0, .string ⟨#[]⟩, .slice none 0 0, .slice none 0 0, .slice none 0 0]) (by simp)).below hb2 (by simp))
    have t0 := HR2.out.frozen 0; have t1 := HR2.out.frozen 1; have t2 := HR2.out.frozen 2; have t3 := HR2.out.frozen 3; have t4 := HR2.out.frozen 4; have t5 := HR2.out.frozen 5; have t6 := HR2.out.frozen 6
    have r0 := HR2.out.cell 0; have r1 := HR2.out.cell 1; have r2 := HR2.out.cell 2; have r3 := HR2.out.cell 3; have r4 := HR2.out.cell 4; have r5 := HR2.out.cell 5; have r6 := HR2.out.cell 6
    simp at r0 r1 r2 r3 r4 r5 r6
    clear hb2
    go_wp2_with fail
    have hyS := (((((((HR2.out.set_ 0 (.int .i64 0)).set_ 1 (.string ⟨#[]⟩)).set_ 2 (.int .i64 0)).set_ 3 (.string ⟨#[]⟩)).set_ 4 (.slice none 0 0)).set_ 5 (.slice none 0 0)).set_ 6 (.slice none 0 0))
    have f0 := hyS.cell 0; have f1 := hyS.cell 1; have f2 := hyS.cell 2; have f3 := hyS.cell 3; have f4 := hyS.cell 4; have f5 := hyS.cell 5; have f6 := hyS.cell 6
    simp at f0 f1 f2 f3 f4 f5 f6
    have HBW := Lib.hid (((((((HB2.out.setCell (p := ⟨w.heap.size + 1, 0, none⟩) (Nat.le_succ _) (.int .i64 0)).setCell (p := ⟨w.heap.size + 1, 1, none⟩) (Nat.le_succ _) (.string ⟨#[]⟩)).setCell (p := ⟨w.heap.size + 1, 2, none⟩) (Nat.le_succ _) (.int .i64 0)).setCell (p := ⟨w.heap.size + 1, 3, none⟩) (Nat.le_succ _) (.string ⟨#[]⟩)).setCell (p := ⟨w.heap.size + 1, 4, none⟩) (Nat.le_succ _) (.slice none 0 0)).setCell (p := ⟨w.heap.size + 1, 5, none⟩) (Nat.le_succ _) (.slice none 0 0)).setCell (p := ⟨w.heap.size + 1, 6, none⟩) (Nat.le_succ _) (.slice none 0 0))
    exact bodyPost_ret (v := .tuple #[.agg #[.int .i64 0, .string ⟨#[]⟩, .int .i64 0, .string ⟨#[]⟩, .slice none 0 0, .slice none 0 0, .slice none 0 0], .bool false]) (by simp [results, Try.results22, go_sem, f0, f1, f2, f3, f4, f5, f6]) rfl ⟨⟨_, rfl, Or.inr ⟨E.out, rfl⟩⟩, HBW.out⟩
end Go.Proofs.Ytmafhaadcjgcbaa
end
section
/- the chapter's first rows: the models that are made, in plain Lean -/
namespace Go.Proofs.Ytmafhaadcjgcbaa
open Go Go.RowKit

def sL : ByteArray := ⟨#[76, 105, 115, 116]⟩
def sItem : ByteArray := ⟨#[105, 116, 101, 109]⟩
def cK : Nat → ByteArray
  | 0 => ⟨#[78, 117, 109]⟩
  | 1 => ⟨#[84, 101, 120, 116]⟩
  | 2 => ⟨#[83, 117, 109]⟩
  | _ => ⟨#[78, 117, 109]⟩
def rK : Nat → ByteArray
  | 1 => ⟨#[110, 111, 116, 101]⟩
  | _ => sItem
def pK : Nat → Int
  | 2 => 1
  | _ => 0
def wkids : Nat → List Int
  | 0 => []
  | 1 => [2]
  | 2 => [2, 3]
  | 3 => [2, 4, 3]
  | _ => [5, 2, 4, 3]
def wroot (k : Nat) : ANode := ⟨1, sL, 0, ⟨#[]⟩, [], wkids k, []⟩
def wm (k : Nat) : AModel := ⟨2 + k, wroot k :: (List.range k).map fun (i : Nat) => ⟨2 + (i : Int), cK i, 1, rK i, [], [], []⟩⟩
def m00 : AModel := ⟨1, []⟩
theorem new_check : CheckM m00 := ⟨⟨⟨by show (1 : Int) ≤ 1; omega, by show (1 : Int) ≤ 1048577; omega, Nat.zero_le _⟩, fun i hi => absurd hi (Nat.not_lt_zero _)⟩, fun _ h => (by cases h), fun _ h => (by cases h), fun _ h => (by cases h), fun _ h => (by cases h)⟩
theorem new_few : Few 0 m00 := fun _ h => by cases h
theorem root_add : addE m00 0 ⟨#[]⟩ 0 sL = 0 := by
  rw [addE_root new_check (by decide +kernel), if_neg (by decide +kernel), if_neg (by decide +kernel)]
theorem root_made : addM m00 0 ⟨#[]⟩ 0 sL = wm 0 := if_pos rfl
theorem wm_add {k : Nat} (hk : k < 4) (h : CheckM (wm k)) : addE (wm k) 1 (rK k) (pK k) (cK k) = 0 := by
  have hy : wroot k ∈ (wm k).nodes := List.mem_cons_self ..
  have hd : Dep (wm k) 1 (wroot k).id := .root _ hy rfl
  have hc : wordA (cK k) = true := by rcases (show k = 0 ∨ k = 1 ∨ k = 2 ∨ k = 3 by omega) with rfl | rfl | rfl | rfl <;> decide +kernel
  have hw : wordA (rK k) = true := by rcases (show k = 0 ∨ k = 1 ∨ k = 2 ∨ k = 3 by omega) with rfl | rfl | rfl | rfl <;> decide +kernel
  have e := addE_kid (a := pK k) h hc hy hw hd
  have h1 : kidE (spotI (wroot k).kids (inL (wm k) (wroot k) (rK k)) (pK k)) ((1 : Nat) : Int) 1 = 0 := by rcases (show k = 0 ∨ k = 1 ∨ k = 2 ∨ k = 3 by omega) with rfl | rfl | rfl | rfl <;> decide +kernel
  have h2 : ¬ ((wm k).nodes.length = 4096 ∨ 1048576 < (wm k).next) := by rcases (show k = 0 ∨ k = 1 ∨ k = 2 ∨ k = 3 by omega) with rfl | rfl | rfl | rfl <;> decide +kernel
  rw [if_neg (fun e => e h1), if_neg h2] at e
  exact e
theorem wm_made {k : Nat} (hk : k < 4) : addM (wm k) 1 (rK k) (pK k) (cK k) = wm (k + 1) := by
  rcases (show k = 0 ∨ k = 1 ∨ k = 2 ∨ k = 3 by omega) with rfl | rfl | rfl | rfl <;> kernel_rfl
theorem wm_check : ∀ k, k ≤ 4 → CheckM (wm k)
  | 0, _ => by rw [← root_made]; exact (add_step root_add new_few).1
  | k + 1, h => by
    have hk := wm_check k (by omega)
    rw [← wm_made (by omega)]
    exact (add_step (k := 0) (wm_add (by omega) hk) (fun x hx => by
      rcases List.mem_cons.1 hx with e | e
      · subst e; exact ⟨Nat.zero_le _, Nat.zero_le _⟩
      · obtain ⟨i, _, rfl⟩ := List.mem_map.1 e
        exact ⟨Nat.zero_le _, Nat.zero_le _⟩)).1
theorem wm_few (k : Nat) : Few 0 (wm k) := fun x hx => by
  rcases List.mem_cons.1 hx with e | e
  · subst e; exact ⟨Nat.zero_le _, Nat.zero_le _⟩
  · obtain ⟨i, _, rfl⟩ := List.mem_map.1 e
    exact ⟨Nat.zero_le _, Nat.zero_le _⟩
theorem wm_root (k : Nat) : wroot k ∈ (wm k).nodes := List.mem_cons_self ..
theorem w4_kids : kidR (wm 4) sItem 1 = [5, 2, 4] := by
  have h := kidR_yes (role := sItem) (wm_check 4 (by omega)) (wm_root 4)
  have e : inL (wm 4) (wroot 4) sItem = [5, 2, 4] := by decide +kernel
  exact h.trans e
theorem w4_loop : moveE (wm 4) 1 2 sItem 0 = 21 := by
  have hc := wm_check 4 (by omega)
  refine moveE_loop hc (fun _ => by decide +kernel) (by decide +kernel) (.inr ?_)
  have h := hc.tree.below_eq (wm_root 4)
  show (2 : Int) ∈ belowL (wm 4) (wroot 4).id
  rw [h]
  exact List.mem_flatMap.2 ⟨2, by decide, List.mem_cons_self ..⟩
theorem w4_depth : depR (wm 4) 4 = 2 := by
  have hr : Dep (wm 4) 1 1 := .root (wroot 4) (wm_root 4) rfl
  have hd : Dep (wm 4) 2 4 := .kid 1 ⟨4, cK 2, 1, rK 2, [], [], []⟩ (List.mem_cons_of_mem _ (List.mem_map.2 ⟨2, by decide, rfl⟩)) (by decide) hr
  exact depR_yes (wm_check 4 (by omega)) hd
end Go.Proofs.Ytmafhaadcjgcbaa
end
section
/- the chapter's first rows: topiarylaw02.awake -/
namespace Go.Proofs.Ytmafhaadcjgcbaa
open Go Go.RowKit

theorem newA_any (w : World) : Calls Try.prog 21 #[] w fun e w' => e = .returned (.agg #[.int .i64 1, .slice none 0 0]) ∧ Below w.heap.size w w' := by
  go_enter Try.func21, Try.ntmps21
  go_wp2
  exact bodyPost_ret (v := .agg #[.int .i64 1, .slice none 0 0]) (by simp [results, Try.results21, go_sem]) rfl ⟨rfl, (Below.refl _ _).alloc (Nat.le_refl _) _⟩
theorem keep_set {F : Nat → Prop} (w : World) (a : Addr) (u : Value) (hF : ∀ b, F b → b ≠ a.block) : Keep F w (w.setCell a u) := fun p hp => World.cell?_of_block (Below.heap_setCell _ _ _ _ (hF _ hp))
theorem lit_row {w : World} {g : Nat} {l : List Int} {cs : Array Value} (h : Blk w g 3 cs) (hcs : ∀ i (hi : i < l.length), cs[i]? = some (.int .i64 l[i])) : RowOf 1 EInt w (fun b => b < w.heap.size) (some ⟨g, 0, none⟩) l :=
  ⟨fun _ => ⟨g, 0, rfl, h.lt⟩, fun i hi => ⟨[.int .i64 l[i]], rfl, rfl, fun b off e j hj => by
    cases e
    have : j = 0 := by omega
    subst this
    rw [h.cell]
    simpa using hcs i hi⟩⟩
theorem add_done {w' : World} {base : Nat} {m : AModel} {v : Value} (hc : CheckM m) {p a : Int} {role concept : ByteArray} (hE : addE m p role a concept = 0) (h : AddAs w' base m p role a concept v) : ∃ A1 c1, v = .tuple #[.agg #[.int .i64 (m.next + 1), .slice A1 (addM m p role a concept).nodes.length c1], .int .i64 m.next, .int .i64 0] ∧ RowOf 7 ENode w' (fun b => base ≤ b ∧ b < w'.heap.size) A1 (addM m p role a concept).nodes := by
  obtain ⟨k, z, A1, n1, c1, rfl, hm⟩ := add_made hc h
  rcases h with ⟨E, h1, e, _⟩ | ⟨_, vl, l, e, ho, h2⟩
  · exact absurd (hE.symm.trans e).symm h1
  · rw [hE] at hm
    rcases hm with hm | ⟨_, hz, l2, ho2, hl2⟩
    · exact absurd rfl hm
    · obtain ⟨A', c', e1, _, _, h3⟩ := ho2.isRow (F := fun b => base ≤ b ∧ b < w'.heap.size) (fun b h1 h => ⟨h1, h⟩)
      injection e1 with e1 e2 e3
      subst e1
      rw [hl2] at h3 e2
      injection e with e
      have e := congrArg Array.toList e
      simp only [List.cons.injEq, Value.agg.injEq, Value.int.injEq, and_true, true_and] at e
      obtain ⟨e4, e5, _⟩ := e
      have e4 := congrArg Array.toList e4
      simp only [List.cons.injEq, Value.int.injEq, and_true, true_and] at e4
      exact ⟨A1, c1, by rw [e4.1, e5, e2, hE], h3⟩
theorem wm_len (k : Nat) : (wm k).nodes.length = k + 1 := by simp [wm]
theorem wm_next (k : Nat) : (wm k).next = (k : Int) + 2 := by show (2 : Int) + k = _; omega
theorem wake_root (w : World) : Calls Try.prog 37 #[.agg #[.int .i64 1, .slice none 0 0], .int .i64 0, .string ⟨#[]⟩, .int .i64 0, .string sL] w fun e w' => ∃ A1 c1, e = .returned (.tuple #[.agg #[.int .i64 2, .slice A1 1 c1], .int .i64 1, .int .i64 0]) ∧ RowOf 7 ENode w' (fun b => b < w'.heap.size) A1 (wm 0).nodes ∧ Below w.heap.size w w' := by
  refine (addA_any none 0 m00 w (fun _ => False) (fun b h => h.elim) (RowOf.nil _) (node_ok new_check) (fun x h => by cases h) (by show 0 ≤ _; omega) 0 (by unfold InR; omega) ⟨#[]⟩ (by decide) 0 (by unfold InR; omega) sL (by decide)).mono ?_
  rintro _ w' ⟨⟨v, rfl, h⟩, hb⟩
  obtain ⟨A1, c1, rfl, hr⟩ := add_done new_check root_add h
  rw [root_made] at hr ⊢
  rw [wm_len]
  exact ⟨A1, c1, rfl, hr.keep ENode.stays (Keep.refl _ _) (fun b h => h.2), hb⟩
theorem wake_add {k : Nat} (hk : k < 4) (A : Option Addr) (c : Nat) (w : World) (h : RowOf 7 ENode w (fun b => b < w.heap.size) A (wm k).nodes) : Calls Try.prog 37 #[.agg #[.int .i64 ((k : Int) + 2), .slice A (k + 1) c], .int .i64 1, .string (rK k), .int .i64 (pK k), .string (cK k)] w fun e w' => ∃ A1 c1, e = .returned (.tuple #[.agg #[.int .i64 (((k + 1 : Nat) : Int) + 2), .slice A1 (k + 1 + 1) c1], .int .i64 ((k : Int) + 2), .int .i64 0]) ∧ RowOf 7 ENode w' (fun b => w.heap.size ≤ b ∧ b < w'.heap.size) A1 (wm (k + 1)).nodes ∧ Below w.heap.size w w' := by
  have hc := wm_check k (by omega)
  have hw : (rK k).size ≤ 33 ∧ (cK k).size ≤ 33 ∧ InR (pK k) := by rcases (show k = 0 ∨ k = 1 ∨ k = 2 ∨ k = 3 by omega) with rfl | rfl | rfl | rfl <;> exact ⟨by decide, by decide, by unfold InR; decide⟩
  have := addA_any A c (wm k) w (fun b => b < w.heap.size) (fun _ h => h) h (node_ok hc) (lens_few hc (wm_few k) (by omega)) (by rw [wm_len]; omega) 1 (by unfold InR; omega) (rK k) (by omega) (pK k) hw.2.2 (cK k) (by omega)
  rw [wm_len, wm_next] at this
  refine this.mono ?_
  rintro _ w' ⟨⟨v, rfl, h⟩, hb⟩
  obtain ⟨A1, c1, rfl, hr⟩ := add_done hc (wm_add hk hc) h
  rw [wm_made hk] at hr ⊢
  rw [wm_len]
  exact ⟨A1, c1, by rw [wm_next, show (k : Int) + 2 + 1 = ((k + 1 : Nat) : Int) + 2 by omega], hr, hb⟩
section
variable (A : Option Addr) (c : Nat) (w : World) (h : RowOf 7 ENode w (fun b => b < w.heap.size) A (wm 4).nodes)
include h
theorem wake_find : Calls Try.prog 22 #[.agg #[.int .i64 6, .slice A 5 c], .int .i64 1] w fun e w' => ∃ P cp K ck R cr, e = .returned (.tuple #[.agg #[.int .i64 1, .string sL, .int .i64 0, .string ⟨#[]⟩, .slice P 0 cp, .slice K 4 ck, .slice R 0 cr], .bool true]) ∧ RowOf 1 EInt w' (fun b => b < w'.heap.size) K [5, 2, 4, 3] ∧ Below w.heap.size w w' := by
  have hc := wm_check 4 (by omega)
  refine (findA_any A c (wm 4) w (fun b => b < w.heap.size) (fun _ h => h) h (node_ok hc) (lens_few hc (wm_few 4) (by omega)) (by rw [wm_len]; omega) 1 (by unfold InR; omega)).mono ?_
  rintro _ w' ⟨⟨v, rfl, hf⟩, hb⟩
  rcases hf with ⟨x, hx, _, hi, vp, vk, vr, rfl, hp, hk, hr, _⟩ | ⟨hn, _⟩
  · have e : x = wroot 4 := node_inj hc.1.2 hx (wm_root 4) hi
    subst e
    obtain ⟨P, cp, rfl, _⟩ := hp
    obtain ⟨K, ck, rfl, _, _, h3⟩ := hk
    obtain ⟨R, cr, rfl, _⟩ := hr
    exact ⟨P, cp, K, ck, R, cr, rfl, RowOf.keep EInt.stays (Keep.refl _ _) (fun b hb => hb.2) h3, hb⟩
  · exact absurd ⟨hc, _, wm_root 4, rfl⟩ hn
theorem wake_move : Calls Try.prog 47 #[.agg #[.int .i64 6, .slice A 5 c], .int .i64 1, .int .i64 2, .string sItem, .int .i64 0] w fun e w' => e = .returned (.tuple #[.agg #[.int .i64 0, .slice none 0 0], .int .i64 21]) ∧ Below w.heap.size w w' := by
  have hc := wm_check 4 (by omega)
  refine (moveA_any A c (wm 4) w (fun b => b < w.heap.size) (fun _ h => h) h (node_ok hc) (lens_few hc (wm_few 4) (by omega)) (by rw [wm_len]; omega) 1 (by unfold InR; omega) 2 (by unfold InR; omega) sItem (by decide) 0 (by unfold InR; omega)).mono ?_
  rintro _ w' ⟨⟨v, rfl, hf⟩, hb⟩
  rw [w4_loop] at hf
  rcases hf with ⟨_, rfl⟩ | ⟨h0, _⟩
  · exact ⟨rfl, hb⟩
  · cases h0
theorem wake_kids : Calls Try.prog 29 #[.agg #[.int .i64 6, .slice A 5 c], .int .i64 1, .string sItem] w fun e w' => ∃ K ck, e = .returned (.slice K 3 ck) ∧ RowOf 1 EInt w' (fun b => b < w'.heap.size) K [5, 2, 4] ∧ Below w.heap.size w w' := by
  have hc := wm_check 4 (by omega)
  refine (kidsA_any A c (wm 4) w (fun b => b < w.heap.size) (fun _ h => h) h (node_ok hc) (by rw [wm_len]; omega) 1 (by unfold InR; omega) sItem).mono ?_
  rintro _ w' ⟨v, rfl, ho, hb⟩
  rw [w4_kids] at ho
  obtain ⟨K, ck, rfl⟩ := ho.shape
  exact ⟨K, ck, rfl, ho.row.1, hb⟩
theorem wake_check : Calls Try.prog 13 #[.agg #[.int .i64 6, .slice A 5 c]] w fun e w' => e = .returned (.int .i64 0) ∧ Below w.heap.size w w' := by
  have hc := wm_check 4 (by omega)
  exact int_is (checkI_yes hc) (check_any A c (wm 4) w (fun b => b < w.heap.size) (fun _ h => h) h (node_ok hc) (by rw [wm_len]; omega))
theorem wake_depth : Calls Try.prog 25 #[.agg #[.int .i64 6, .slice A 5 c], .int .i64 4] w fun e w' => e = .returned (.int .i64 2) ∧ Below w.heap.size w w' := by
  have hc := wm_check 4 (by omega)
  exact int_is w4_depth (depthA_any A c (wm 4) w (fun b => b < w.heap.size) (fun _ h => h) h (node_ok hc) (by rw [wm_len]; omega) 4 (by unfold InR; omega))
end
set_option maxRecDepth 100000 in
set_option maxHeartbeats 8000000 in
theorem wake_any (w : World) : Calls Try.prog 53 #[] w fun e w' => e = .returned (.bool true) ∧ Below w.heap.size w w' := by
  go_enter Try.func53, Try.ntmps53
  go_wp2_with fail
  refine (newA_any w).mono ?_
  rintro _ w1 ⟨rfl, hb⟩
  have MM : Hid (Mem w w1 ([])) := Lib.hid ((Mem.start w).call hb)
  clear hb
  go_wp2_with fail
  refine (wake_root w1).mono ?_
  rintro _ w2 ⟨Ak, ck, rfl, hrow, hb⟩
  have MM2 : Hid (Mem w w2 ([])) := Lib.hid (MM.out.call hb)
  clear MM
  have MM := MM2
  clear MM2
  have HR : Hid (∀ V, Below w2.heap.size w2 V → RowOf 7 ENode V (fun b => b < V.heap.size) Ak (wm 0).nodes) := Lib.hid (fun V hb => hrow.keep ENode.stays (Keep.below hb (fun _ h => h)) (fun b h => Nat.lt_of_lt_of_le h hb.size))
  clear hb hrow
  obtain ⟨g, hg⟩ : ∃ g, w2.heap.size = g := ⟨_, rfl⟩
  obtain ⟨w3, hu⟩ : ∃ z9 : World, w2.alloc (.cells #[.int .i64 2, .slice Ak 1 ck] 24) = z9 := ⟨_, rfl⟩
  have MM2 : Hid (Mem w w3 ([.blk g 24 #[.int .i64 2, .slice Ak 1 ck]])) := Lib.hid (by rw [← hu]; exact MM.out.allocG hg #[.int .i64 2, .slice Ak 1 ck] 24)
  clear MM
  have MM := MM2
  clear MM2
  have HR3 : Hid (RowOf 7 ENode w3 (fun b => b < w3.heap.size) Ak (wm 0).nodes) := Lib.hid (HR.out _ (by rw [← hu]; exact (Below.refl _ _).alloc (Nat.le_refl _) _))
  go_upto_region 2 with fail
  (try rw [hu])
  (try rw [hg])
  clear hu hg HR
  have gc0 := (MM.out.blk 0 rfl).cell 0
  have gc1 := (MM.out.blk 0 rfl).cell 1
  have glt := (MM.out.blk 0 rfl).lt
  simp at gc0 gc1
  go_upto_region 4 with fail
  clear gc0 gc1 glt
  obtain ⟨q, hq⟩ : ∃ q, w3.heap.size = q := ⟨_, rfl⟩
  obtain ⟨w4, hu⟩ : ∃ z9 : World, ((w3.alloc (.cells #[.string ⟨#[78, 117, 109]⟩, .string ⟨#[84, 101, 120, 116]⟩, .string ⟨#[83, 117, 109]⟩, .string ⟨#[78, 117, 109]⟩] 9)).alloc (.cells #[.string ⟨#[105, 116, 101, 109]⟩, .string ⟨#[110, 111, 116, 101]⟩, .string ⟨#[105, 116, 101, 109]⟩, .string ⟨#[105, 116, 101, 109]⟩] 9)).alloc (.cells #[.int .i64 0, .int .i64 0, .int .i64 1, .int .i64 0] 3) = z9 := ⟨_, rfl⟩
  have MM2 : Hid (Mem w w4 ([.blk g 24 #[.int .i64 2, .slice Ak 1 ck], .blk q 9 #[.string ⟨#[78, 117, 109]⟩, .string ⟨#[84, 101, 120, 116]⟩, .string ⟨#[83, 117, 109]⟩, .string ⟨#[78, 117, 109]⟩], .blk (q + 1) 9 #[.string ⟨#[105, 116, 101, 109]⟩, .string ⟨#[110, 111, 116, 101]⟩, .string ⟨#[105, 116, 101, 109]⟩, .string ⟨#[105, 116, 101, 109]⟩], .blk (q + 2) 3 #[.int .i64 0, .int .i64 0, .int .i64 1, .int .i64 0]])) := Lib.hid (by rw [← hu]; exact (by have h := ((MM.out.allocG hq #[.string ⟨#[78, 117, 109]⟩, .string ⟨#[84, 101, 120, 116]⟩, .string ⟨#[83, 117, 109]⟩, .string ⟨#[78, 117, 109]⟩] 9).allocG (g := q + 1) (by simp [hq]) #[.string ⟨#[105, 116, 101, 109]⟩, .string ⟨#[110, 111, 116, 101]⟩, .string ⟨#[105, 116, 101, 109]⟩, .string ⟨#[105, 116, 101, 109]⟩] 9).allocG (g := q + 2) (by simp [hq]) #[.int .i64 0, .int .i64 0, .int .i64 1, .int .i64 0] 3; exact h.pick0 [3, 2, 1, 0] _ (by decide) rfl))
  clear MM
  have MM := MM2
  clear MM2
  have HR4 : Hid (RowOf 7 ENode w4 (fun b => b < w4.heap.size) Ak (wm 0).nodes) := Lib.hid (HR3.out.keep ENode.stays (Keep.below (w := w3) (w' := w4) (B := w3.heap.size) (by rw [← hu]; exact (((Below.refl _ _).alloc (Nat.le_refl _) _).alloc (by simp) _).alloc (by simp; omega) _) (fun _ h => h)) (fun b h => by rw [← hu]; simp; omega))
  go_upto_region 6 with fail
  (try rw [hu])
  (try rw [hq])
  (try rw [hu])
  clear hu hq HR3
  go_loopg [2, 3, 7] 4 (fun n s2 s3 s7 wx => ∃ (k : Nat) (i2 i3 : Int) (Ak : Option Addr) (ck : Nat), s2 = .int .i64 i2 ∧ s3 = .int .i64 i3 ∧ s7 = .int .i64 k ∧ n = 4 - k ∧ k ≤ 4 ∧ Mem w wx [.blk g 24 #[.int .i64 ((k : Int) + 2), .slice Ak (k + 1) ck], .blk q 9 #[.string ⟨#[78, 117, 109]⟩, .string ⟨#[84, 101, 120, 116]⟩, .string ⟨#[83, 117, 109]⟩, .string ⟨#[78, 117, 109]⟩], .blk (q + 1) 9 #[.string ⟨#[105, 116, 101, 109]⟩, .string ⟨#[110, 111, 116, 101]⟩, .string ⟨#[105, 116, 101, 109]⟩, .string ⟨#[105, 116, 101, 109]⟩], .blk (q + 2) 3 #[.int .i64 0, .int .i64 0, .int .i64 1, .int .i64 0]] ∧ RowOf 7 ENode wx (fun b => b < wx.heap.size) Ak (wm k).nodes)
  case atStart => exact ⟨0, 1, 0, Ak, ck, rfl, rfl, rfl, rfl, by omega, MM.out, HR4.out⟩
  case round =>
    clear MM HR4
    obtain ⟨k, i2, i3, Ak, ck, rfl, rfl, rfl, rfl, hk4, hm, hr⟩ := hrel
    have MM := Lib.hid hm; have HR := Lib.hid hr
    clear hm hr
    by_cases hlt : k < 4
    · have hlt' : (k : Int) < 4 := by omega
      have hk0 : (0 : Int) ≤ k := by omega
      have HSM : Hid (∀ w', Blk w' q 9 #[.string ⟨#[78, 117, 109]⟩, .string ⟨#[84, 101, 120, 116]⟩, .string ⟨#[83, 117, 109]⟩, .string ⟨#[78, 117, 109]⟩] → Blk w' (q + 1) 9 #[.string ⟨#[105, 116, 101, 109]⟩, .string ⟨#[110, 111, 116, 101]⟩, .string ⟨#[105, 116, 101, 109]⟩, .string ⟨#[105, 116, 101, 109]⟩] → Blk w' (q + 2) 3 #[.int .i64 0, .int .i64 0, .int .i64 1, .int .i64 0] → w'.cell? ⟨q, k, none⟩ = some (.string (cK k)) ∧ w'.cell? ⟨q + 1, k, none⟩ = some (.string (rK k)) ∧ w'.cell? ⟨q + 2, k, none⟩ = some (.int .i64 (pK k))) := Lib.hid (fun w' h1 h2 h3 => by
        refine ⟨?_, ?_, ?_⟩
        · rw [h1.cell]; rcases (show k = 0 ∨ k = 1 ∨ k = 2 ∨ k = 3 by omega) with rfl | rfl | rfl | rfl <;> rfl
        · rw [h2.cell]; rcases (show k = 0 ∨ k = 1 ∨ k = 2 ∨ k = 3 by omega) with rfl | rfl | rfl | rfl <;> rfl
        · rw [h3.cell]; rcases (show k = 0 ∨ k = 1 ∨ k = 2 ∨ k = 3 by omega) with rfl | rfl | rfl | rfl <;> rfl)
      have HAD := Lib.hid (fun (w' : World) (h : RowOf 7 ENode w' (fun b => b < w'.heap.size) Ak (wm k).nodes) => wake_add hlt Ak ck w' h)
      obtain ⟨rk, hrk⟩ : ∃ z, rK k = z := ⟨_, rfl⟩
      obtain ⟨ckk, hck⟩ : ∃ z, cK k = z := ⟨_, rfl⟩
      obtain ⟨pk, hpk⟩ : ∃ z, pK k = z := ⟨_, rfl⟩
      rw [hrk, hck, hpk] at HAD HSM
      clear hrk hck hpk
      go_upto_region 8 with fail
      obtain ⟨u, hu⟩ : ∃ z9 : World, wr.drew = z9 := ⟨_, rfl⟩
      have MM2 : Hid (Mem w u ([.blk g 24 #[.int .i64 ((k : Int) + 2), .slice Ak (k + 1) ck], .blk q 9 #[.string ⟨#[78, 117, 109]⟩, .string ⟨#[84, 101, 120, 116]⟩, .string ⟨#[83, 117, 109]⟩, .string ⟨#[78, 117, 109]⟩], .blk (q + 1) 9 #[.string ⟨#[105, 116, 101, 109]⟩, .string ⟨#[110, 111, 116, 101]⟩, .string ⟨#[105, 116, 101, 109]⟩, .string ⟨#[105, 116, 101, 109]⟩], .blk (q + 2) 3 #[.int .i64 0, .int .i64 0, .int .i64 1, .int .i64 0]])) := Lib.hid (by rw [← hu]; exact MM.out.drew)
      clear MM
      have MM := MM2
      clear MM2
      have HDU : Hid (Below wr.heap.size wr u) := Lib.hid (by rw [← hu]; exact (Below.refl _ _).drew)
      refine wp_region_Y (S := (fun w' : World => w'.cell? ⟨q, k, none⟩ = some (.string ckk) ∧ w'.cell? ⟨q + 1, k, none⟩ = some (.string rk) ∧ w'.cell? ⟨q + 2, k, none⟩ = some (.int .i64 pk))) 20 (by kernel_rfl) (by rw [hu]; exact HSM.out _ (MM.out.blk 1 rfl) (MM.out.blk 2 rfl) (MM.out.blk 3 rfl)) (fun hHeld => ?_)
      rw [hu] at hHeld ⊢
      clear hu
      refine wpAnyY_take (i := 1) (v := ?_) rfl (by kernel_rfl) (by kernel_rfl) (by kernel_rfl) (by kernel_rfl) (fun _ _ _ h => h) (Or.inl ⟨by rfl, ?_⟩) (by assumption) ?_
      rotate_left 1
      · (intro w' hSw; obtain ⟨s0, s1, s2⟩ := hSw; go_simp); try with_reducible rfl
      try simp only [Act.put, List.setIfInBounds_toArray, List.set_cons_zero, List.set_cons_succ, Nat.zero_add]
      refine wpAnyY_take (i := 2) (v := ?_) rfl (by kernel_rfl) (by kernel_rfl) (by kernel_rfl) (by kernel_rfl) (fun _ _ _ h => h) (Or.inl ⟨by rfl, ?_⟩) (by assumption) ?_
      rotate_left 1
      · (intro w' hSw; obtain ⟨s0, s1, s2⟩ := hSw; go_simp); try with_reducible rfl
      try simp only [Act.put, List.setIfInBounds_toArray, List.set_cons_zero, List.set_cons_succ, Nat.zero_add]
      refine wpAnyY_take (i := 3) (v := ?_) rfl (by kernel_rfl) (by kernel_rfl) (by kernel_rfl) (by kernel_rfl) (fun _ _ _ h => h) (Or.inl ⟨by rfl, ?_⟩) (by assumption) ?_
      rotate_left 1
      · (intro w' hSw; obtain ⟨s0, s1, s2⟩ := hSw; go_simp); try with_reducible rfl
      try simp only [Act.put, List.setIfInBounds_toArray, List.set_cons_zero, List.set_cons_succ, Nat.zero_add]
      refine wpAnyY_take (i := 4) (v := ?_) rfl (by kernel_rfl) (by kernel_rfl) (by kernel_rfl) (by kernel_rfl) (fun _ _ _ h => h) (Or.inl ⟨by rfl, ?_⟩) (by assumption) ?_
      rotate_left 1
      · (intro w' hSw; obtain ⟨s0, s1, s2⟩ := hSw; go_simp); try with_reducible rfl
      try simp only [Act.put, List.setIfInBounds_toArray, List.set_cons_zero, List.set_cons_succ, Nat.zero_add]
      refine wpAnyY_take (i := 5) (v := ?_) rfl (by kernel_rfl) (by kernel_rfl) (by kernel_rfl) (by kernel_rfl) (fun _ _ _ h => h) (Or.inl ⟨by rfl, ?_⟩) (by assumption) ?_
      rotate_left 1
      · (intro w' hSw; obtain ⟨s0, s1, s2⟩ := hSw; go_simp); try with_reducible rfl
      try simp only [Act.put, List.setIfInBounds_toArray, List.set_cons_zero, List.set_cons_succ, Nat.zero_add]
      refine wpAnyY_take (i := 6) (v := ?_) rfl (by kernel_rfl) (by kernel_rfl) (by kernel_rfl) (by kernel_rfl) (fun _ _ _ h => h) (Or.inl ⟨by rfl, ?_⟩) (by assumption) ?_
      rotate_left 1
      · (intro w' hSw; obtain ⟨s0, s1, s2⟩ := hSw; go_simp); try with_reducible rfl
      try simp only [Act.put, List.setIfInBounds_toArray, List.set_cons_zero, List.set_cons_succ, Nat.zero_add]
      refine wpAnyY_take (i := 7) (v := ?_) rfl (by kernel_rfl) (by kernel_rfl) (by kernel_rfl) (by kernel_rfl) (fun _ _ _ h => h) (Or.inl ⟨by rfl, ?_⟩) (by assumption) ?_
      rotate_left 1
      · (intro w' hSw; obtain ⟨s0, s1, s2⟩ := hSw; go_simp); try with_reducible rfl
      try simp only [Act.put, List.setIfInBounds_toArray, List.set_cons_zero, List.set_cons_succ, Nat.zero_add]
      refine wpAnyY_take (i := 8) (v := ?_) rfl (by kernel_rfl) (by kernel_rfl) (by kernel_rfl) (by kernel_rfl) (fun _ _ _ h => h) (Or.inl ⟨by rfl, ?_⟩) (by assumption) ?_
      rotate_left 1
      · (intro w' hSw; obtain ⟨s0, s1, s2⟩ := hSw; go_simp); try with_reducible rfl
      try simp only [Act.put, List.setIfInBounds_toArray, List.set_cons_zero, List.set_cons_succ, Nat.zero_add]
      refine wpAnyY_take (i := 9) (v := ?_) rfl (by kernel_rfl) (by kernel_rfl) (by kernel_rfl) (by kernel_rfl) (fun _ _ _ h => h) (Or.inl ⟨by rfl, ?_⟩) (by assumption) ?_
      rotate_left 1
      · (intro w' hSw; obtain ⟨s0, s1, s2⟩ := hSw; go_simp); try with_reducible rfl
      try simp only [Act.put, List.setIfInBounds_toArray, List.set_cons_zero, List.set_cons_succ, Nat.zero_add]
      refine wpAnyY_take (i := 10) (v := ?_) rfl (by kernel_rfl) (by kernel_rfl) (by kernel_rfl) (by kernel_rfl) (fun _ _ _ h => h) (Or.inl ⟨by rfl, ?_⟩) (by assumption) ?_
      rotate_left 1
      · (intro w' hSw; obtain ⟨s0, s1, s2⟩ := hSw; go_simp); try with_reducible rfl
      try simp only [Act.put, List.setIfInBounds_toArray, List.set_cons_zero, List.set_cons_succ, Nat.zero_add]
      refine wpAnyY_take (i := 11) (v := ?_) rfl (by kernel_rfl) (by kernel_rfl) (by kernel_rfl) (by kernel_rfl) (fun _ _ _ h => h) (Or.inl ⟨by rfl, ?_⟩) (by assumption) ?_
      rotate_left 1
      · (intro w' hSw; obtain ⟨s0, s1, s2⟩ := hSw; go_simp); try with_reducible rfl
      try simp only [Act.put, List.setIfInBounds_toArray, List.set_cons_zero, List.set_cons_succ, Nat.zero_add]
      refine wpAnyY_take (i := 12) (v := ?_) rfl (by kernel_rfl) (by kernel_rfl) (by kernel_rfl) (by kernel_rfl) (fun _ _ _ h => h) (Or.inl ⟨by rfl, ?_⟩) (by assumption) ?_
      rotate_left 1
      · (intro w' hSw; obtain ⟨s0, s1, s2⟩ := hSw; go_simp); try with_reducible rfl
      try simp only [Act.put, List.setIfInBounds_toArray, List.set_cons_zero, List.set_cons_succ, Nat.zero_add]
      refine wpAnyY_one (i := 0) rfl (by kernel_rfl) (fun K hK => ?_)
      have r0 := (MM.out.blk 0 rfl).cell 0; have r1 := (MM.out.blk 0 rfl).cell 1
      have rlt := (MM.out.blk 0 rfl).lt
      simp at r0 r1
      go_simp
      refine hK.out _ _ (fun _ => hHeld) ?_
      clear r0 r1 rlt
      clear hK K
      try simp only [Act.put, List.setIfInBounds_toArray, List.set_cons_zero, List.set_cons_succ, Nat.zero_add]
      refine wpAnyY_one (i := 13) rfl (by kernel_rfl) (fun K hK => ?_)
      go_simp
      refine (HAD.out _ (HR.out.keep ENode.stays (Keep.below (B := wr.heap.size) HDU.out (fun _ h => h)) (fun b h => Nat.lt_of_lt_of_le h HDU.out.size))).mono ?_
      rintro _ v1 ⟨A1, c1, rfl, hrow, hb⟩
      have MM2 : Hid (Mem w v1 ([.blk g 24 #[.int .i64 ((k : Int) + 2), .slice Ak (k + 1) ck], .blk q 9 #[.string ⟨#[78, 117, 109]⟩, .string ⟨#[84, 101, 120, 116]⟩, .string ⟨#[83, 117, 109]⟩, .string ⟨#[78, 117, 109]⟩], .blk (q + 1) 9 #[.string ⟨#[105, 116, 101, 109]⟩, .string ⟨#[110, 111, 116, 101]⟩, .string ⟨#[105, 116, 101, 109]⟩, .string ⟨#[105, 116, 101, 109]⟩], .blk (q + 2) 3 #[.int .i64 0, .int .i64 0, .int .i64 1, .int .i64 0]])) := Lib.hid (MM.out.call hb)
      have HR2 := Lib.hid hrow
      have HGU : Hid (g < u.heap.size ∧ g < v1.heap.size) := Lib.hid (by have := (MM.out.blk 0 rfl).lt; have := hb.size; omega)
      clear MM HR hb hrow
      have MM := MM2
      clear MM2
      go_simp
      have hHeldv1 := HSM.out _ (MM.out.blk 1 rfl) (MM.out.blk 2 rfl) (MM.out.blk 3 rfl)
      refine hK.out _ _ (fun _ => HSM.out _ (MM.out.blk 1 rfl) (MM.out.blk 2 rfl) (MM.out.blk 3 rfl)) ?_
      clear hK K
      try simp only [Act.put, List.setIfInBounds_toArray, List.set_cons_zero, List.set_cons_succ, Nat.zero_add]
      refine wpAnyY_take (i := 14) (v := ?_) rfl (by kernel_rfl) (by kernel_rfl) (by kernel_rfl) (by kernel_rfl) (fun _ _ _ h => h) (Or.inl ⟨by rfl, ?_⟩) (by assumption) ?_
      rotate_left 1
      · (intro w' hSw; obtain ⟨s0, s1, s2⟩ := hSw; go_simp); try with_reducible rfl
      try simp only [Act.put, List.setIfInBounds_toArray, List.set_cons_zero, List.set_cons_succ, Nat.zero_add]
      refine wpAnyY_take (i := 15) (v := ?_) rfl (by kernel_rfl) (by kernel_rfl) (by kernel_rfl) (by kernel_rfl) (fun _ _ _ h => h) (Or.inl ⟨by rfl, ?_⟩) (by assumption) ?_
      rotate_left 1
      · (intro w' hSw; obtain ⟨s0, s1, s2⟩ := hSw; go_simp); try with_reducible rfl
      try simp only [Act.put, List.setIfInBounds_toArray, List.set_cons_zero, List.set_cons_succ, Nat.zero_add]
      refine wpAnyY_take (i := 16) (v := ?_) rfl (by kernel_rfl) (by kernel_rfl) (by kernel_rfl) (by kernel_rfl) (fun _ _ _ h => h) (Or.inl ⟨by rfl, ?_⟩) (by assumption) ?_
      rotate_left 1
      · (intro w' hSw; obtain ⟨s0, s1, s2⟩ := hSw; go_simp); try with_reducible rfl
      try simp only [Act.put, List.setIfInBounds_toArray, List.set_cons_zero, List.set_cons_succ, Nat.zero_add]
      refine wpAnyY_take (i := 17) (v := ?_) rfl (by kernel_rfl) (by kernel_rfl) (by kernel_rfl) (by kernel_rfl) (fun _ _ _ h => h) (Or.inl ⟨by rfl, ?_⟩) (by assumption) ?_
      rotate_left 1
      · (intro w' hSw; obtain ⟨s0, s1, s2⟩ := hSw; go_simp); try with_reducible rfl
      try simp only [Act.put, List.setIfInBounds_toArray, List.set_cons_zero, List.set_cons_succ, Nat.zero_add]
      refine wpAnyY_one (i := 18) rfl (by kernel_rfl) (fun K hK => ?_)
      have t0 := (MM.out.blk 0 rfl).frozen 0; have t1 := (MM.out.blk 0 rfl).frozen 1
      have r0 := (MM.out.blk 0 rfl).cell 0; have r1 := (MM.out.blk 0 rfl).cell 1
      have rlt := (MM.out.blk 0 rfl).lt
      simp at r0 r1
      have HR3 : Hid (RowOf 7 ENode ((v1.setCell ⟨g, 0, none⟩ (.int .i64 (((k + 1 : Nat) : Int) + 2))).setCell ⟨g, 1, none⟩ (.slice A1 (k + 1 + 1) c1)) (fun b => b < ((v1.setCell ⟨g, 0, none⟩ (.int .i64 (((k + 1 : Nat) : Int) + 2))).setCell ⟨g, 1, none⟩ (.slice A1 (k + 1 + 1) c1)).heap.size) A1 (wm (k + 1)).nodes) := Lib.hid (HR2.out.keep ENode.stays ((keep_set _ ⟨g, 0, none⟩ _ (fun b hb => by have := HGU.out; show b ≠ g; have := hb.1; omega)).trans (keep_set _ ⟨g, 1, none⟩ _ (fun b hb => by have := HGU.out; show b ≠ g; have := hb.1; omega))) (fun b hb => by have h2 := hb.2; simpa using h2))
      have MM2 : Hid (Mem w ((v1.setCell ⟨g, 0, none⟩ (.int .i64 (((k + 1 : Nat) : Int) + 2))).setCell ⟨g, 1, none⟩ (.slice A1 (k + 1 + 1) c1)) ([.blk g 24 #[.int .i64 (((k + 1 : Nat) : Int) + 2), .slice A1 (k + 1 + 1) c1], .blk q 9 #[.string ⟨#[78, 117, 109]⟩, .string ⟨#[84, 101, 120, 116]⟩, .string ⟨#[83, 117, 109]⟩, .string ⟨#[78, 117, 109]⟩], .blk (q + 1) 9 #[.string ⟨#[105, 116, 101, 109]⟩, .string ⟨#[110, 111, 116, 101]⟩, .string ⟨#[105, 116, 101, 109]⟩, .string ⟨#[105, 116, 101, 109]⟩], .blk (q + 2) 3 #[.int .i64 0, .int .i64 0, .int .i64 1, .int .i64 0]])) := Lib.hid ((MM.out.set_ 0 rfl 0 (.int .i64 (((k + 1 : Nat) : Int) + 2))).set_ 0 rfl 1 (.slice A1 (k + 1 + 1) c1))
      clear MM HR2
      have MM := MM2
      clear MM2
      have HSF := Lib.hid (HSM.out _ (MM.out.blk 1 rfl) (MM.out.blk 2 rfl) (MM.out.blk 3 rfl))
      go_simp
      refine hK.out _ _ (fun _ => HSF.out) ?_
      clear t0 t1 r0 r1 rlt
      clear hK K
      try simp only [Act.put, List.setIfInBounds_toArray, List.set_cons_zero, List.set_cons_succ, Nat.zero_add]
      refine wpAnyY_one (i := 19) rfl (by kernel_rfl) (fun K hK => ?_)
      go_simp
      refine hK.out _ _ (fun _ => HSF.out) ?_
      clear hK K
      try simp only [Act.put, List.setIfInBounds_toArray, List.set_cons_zero, List.set_cons_succ, Nat.zero_add]
      refine wpAnyY_one0 (i := 20) rfl (by kernel_rfl) (by kernel_rfl) (fun K hK => ?_)
      go_simp
      refine hK.out _ _ ?_
      clear hK K
      try simp only [Act.put, List.setIfInBounds_toArray, List.set_cons_zero, List.set_cons_succ, Nat.zero_add]
      refine wpAnyY_done (by kernel_rfl) ?_ _
      clear hHeld hHeldv1 HSF HGU HSM HAD HDU
      have hw2 : IntKind.i64.wrap ((k : Int) + 2) = (k : Int) + 2 := IntWalk.i64_in _ ⟨by omega, by omega⟩
      go_wp2_with fail
      go_roundg (4 - (k + 1))
      case measure => omega
      case rel => exact ⟨k + 1, (k : Int) + 2, 0, A1, c1, rfl, rfl, by go_num, rfl, by omega, MM.out, HR3.out⟩
    · obtain rfl : k = 4 := by omega
      have hlt' : ¬ ((4 : Nat) : Int) < 4 := by omega
      have MM2 : Hid (Mem w wr ([.blk g 24 #[.int .i64 6, .slice Ak 5 ck], .blk q 9 #[.string ⟨#[78, 117, 109]⟩, .string ⟨#[84, 101, 120, 116]⟩, .string ⟨#[83, 117, 109]⟩, .string ⟨#[78, 117, 109]⟩], .blk (q + 1) 9 #[.string ⟨#[105, 116, 101, 109]⟩, .string ⟨#[110, 111, 116, 101]⟩, .string ⟨#[105, 116, 101, 109]⟩, .string ⟨#[105, 116, 101, 109]⟩], .blk (q + 2) 3 #[.int .i64 0, .int .i64 0, .int .i64 1, .int .i64 0]])) := MM
      clear MM
      have MM := MM2
      clear MM2 hlt hk4
      have MM2 : Hid (Mem w wr ([.blk g 24 #[.int .i64 6, .slice Ak 5 ck]])) := Lib.hid (Mem.pick0 MM.out [0] [.blk g 24 #[.int .i64 6, .slice Ak 5 ck]] (by decide) rfl)
      clear MM
      have MM := MM2
      clear MM2
      have gc0 := (MM.out.blk 0 rfl).cell 0
      have gc1 := (MM.out.blk 0 rfl).cell 1
      have glt := (MM.out.blk 0 rfl).lt
      simp at gc0 gc1
      go_wp2_with fail
      refine (wake_find Ak ck wr HR.out).mono ?_
      rintro _ f1 ⟨P, cp, K, kk, R, cr, rfl, hkr, hb⟩
      clear gc0 gc1 glt
      have MM2 : Hid (Mem w f1 ([.blk g 24 #[.int .i64 6, .slice Ak 5 ck]])) := Lib.hid (MM.out.call hb)
      clear MM
      have MM := MM2
      clear MM2
      have HK := Lib.hid hkr
      have HR2 := Lib.hid (HR.out.keep ENode.stays (Keep.below (B := wr.heap.size) hb (fun _ h => h)) (F' := fun b => b < f1.heap.size) (fun b h => Nat.lt_of_lt_of_le h hb.size))
      clear HR
      have HR := HR2
      clear HR2
      clear hb hkr hlt'
      obtain ⟨hn, hhn⟩ : ∃ x, f1.heap.size = x := ⟨_, rfl⟩
      obtain ⟨f2, hu⟩ : ∃ z9 : World, f1.alloc (.cells #[.int .i64 1, .string sL, .int .i64 0, .string ⟨#[]⟩, .slice P 0 cp, .slice K 4 kk, .slice R 0 cr] 38) = z9 := ⟨_, rfl⟩
      have hb : Below f1.heap.size f1 f2 := by rw [← hu]; exact (Below.refl _ _).alloc (Nat.le_refl _) _
      have MM2 : Hid (Mem w f2 ([.blk hn 38 #[.int .i64 1, .string sL, .int .i64 0, .string ⟨#[]⟩, .slice P 0 cp, .slice K 4 kk, .slice R 0 cr], .blk g 24 #[.int .i64 6, .slice Ak 5 ck]])) := Lib.hid (by rw [← hu]; exact MM.out.allocG hhn #[.int .i64 1, .string sL, .int .i64 0, .string ⟨#[]⟩, .slice P 0 cp, .slice K 4 kk, .slice R 0 cr] 38)
      clear MM
      have MM := MM2
      clear MM2
      have HR2 := Lib.hid (HR.out.keep ENode.stays (Keep.below (B := f1.heap.size) hb (fun _ h => h)) (F' := fun b => b < f2.heap.size) (fun b h => Nat.lt_of_lt_of_le h hb.size))
      clear HR
      have HR := HR2
      clear HR2
      have HK2 := Lib.hid (HK.out.keep EInt.stays (Keep.below (B := f1.heap.size) hb (fun _ h => h)) (F' := fun b => b < f2.heap.size) (fun b h => Nat.lt_of_lt_of_le h hb.size))
      clear HK
      have HK := HK2
      clear HK2
      have HU9 := Lib.hid hu; have HH9 := Lib.hid hhn
      clear hb hu hhn
      go_upto_region 12 with fail
      (try rw [HU9.out])
      (try rw [HH9.out])
      (try rw [HU9.out])
      clear HU9 HH9
      have gc0 := (MM.out.blk 1 rfl).cell 0
      have gc1 := (MM.out.blk 1 rfl).cell 1
      have glt := (MM.out.blk 1 rfl).lt
      simp at gc0 gc1
      go_wp2_with fail
      refine (wake_move Ak ck f2 HR.out).mono ?_
      rintro _ f3 ⟨rfl, hb⟩
      clear gc0 gc1 glt
      have MM2 : Hid (Mem w f3 ([.blk hn 38 #[.int .i64 1, .string sL, .int .i64 0, .string ⟨#[]⟩, .slice P 0 cp, .slice K 4 kk, .slice R 0 cr], .blk g 24 #[.int .i64 6, .slice Ak 5 ck]])) := Lib.hid (MM.out.call hb)
      clear MM
      have MM := MM2
      clear MM2
      have HR2 := Lib.hid (HR.out.keep ENode.stays (Keep.below (B := f2.heap.size) hb (fun _ h => h)) (F' := fun b => b < f3.heap.size) (fun b h => Nat.lt_of_lt_of_le h hb.size))
      clear HR
      have HR := HR2
      clear HR2
      have HK2 := Lib.hid (HK.out.keep EInt.stays (Keep.below (B := f2.heap.size) hb (fun _ h => h)) (F' := fun b => b < f3.heap.size) (fun b h => Nat.lt_of_lt_of_le h hb.size))
      clear HK
      have HK := HK2
      clear HK2
      clear hb
      obtain ⟨hz, hhz⟩ : ∃ x, f3.heap.size = x := ⟨_, rfl⟩
      obtain ⟨f4, hu⟩ : ∃ z9 : World, f3.alloc (.cells #[.int .i64 0, .slice none 0 0] 24) = z9 := ⟨_, rfl⟩
      have hb : Below f3.heap.size f3 f4 := by rw [← hu]; exact (Below.refl _ _).alloc (Nat.le_refl _) _
      have MM2 : Hid (Mem w f4 ([.blk hz 24 #[.int .i64 0, .slice none 0 0], .blk hn 38 #[.int .i64 1, .string sL, .int .i64 0, .string ⟨#[]⟩, .slice P 0 cp, .slice K 4 kk, .slice R 0 cr], .blk g 24 #[.int .i64 6, .slice Ak 5 ck]])) := Lib.hid (by rw [← hu]; exact MM.out.allocG hhz #[.int .i64 0, .slice none 0 0] 24)
      clear MM
      have MM := MM2
      clear MM2
      have HR2 := Lib.hid (HR.out.keep ENode.stays (Keep.below (B := f3.heap.size) hb (fun _ h => h)) (F' := fun b => b < f4.heap.size) (fun b h => Nat.lt_of_lt_of_le h hb.size))
      clear HR
      have HR := HR2
      clear HR2
      have HK2 := Lib.hid (HK.out.keep EInt.stays (Keep.below (B := f3.heap.size) hb (fun _ h => h)) (F' := fun b => b < f4.heap.size) (fun b h => Nat.lt_of_lt_of_le h hb.size))
      clear HK
      have HK := HK2
      clear HK2
      have HU9 := Lib.hid hu; have HH9 := Lib.hid hhz
      clear hb hu hhz
      go_upto_region 13 with fail
      (try rw [HU9.out])
      (try rw [HH9.out])
      (try rw [HU9.out])
      clear HU9 HH9
      have nc5 := (MM.out.blk 1 rfl).cell 5
      have nlt := (MM.out.blk 1 rfl).lt
      simp at nc5
      obtain ⟨ha, hha⟩ : ∃ x, f4.heap.size = x := ⟨_, rfl⟩
      obtain ⟨f4a, hu⟩ : ∃ z9 : World, f4.alloc (.cells #[.int .i64 5, .int .i64 2, .int .i64 4, .int .i64 3] 3) = z9 := ⟨_, rfl⟩
      have hb : Below f4.heap.size f4 f4a := by rw [← hu]; exact (Below.refl _ _).alloc (Nat.le_refl _) _
      have MM2 : Hid (Mem w f4a ([.blk ha 3 #[.int .i64 5, .int .i64 2, .int .i64 4, .int .i64 3], .blk hz 24 #[.int .i64 0, .slice none 0 0], .blk hn 38 #[.int .i64 1, .string sL, .int .i64 0, .string ⟨#[]⟩, .slice P 0 cp, .slice K 4 kk, .slice R 0 cr], .blk g 24 #[.int .i64 6, .slice Ak 5 ck]])) := Lib.hid (by rw [← hu]; exact MM.out.allocG hha #[.int .i64 5, .int .i64 2, .int .i64 4, .int .i64 3] 3)
      clear MM
      have MM := MM2
      clear MM2
      have HR2 := Lib.hid (HR.out.keep ENode.stays (Keep.below (B := f4.heap.size) hb (fun _ h => h)) (F' := fun b => b < f4a.heap.size) (fun b h => Nat.lt_of_lt_of_le h hb.size))
      clear HR
      have HR := HR2
      clear HR2
      have HK2 := Lib.hid (HK.out.keep EInt.stays (Keep.below (B := f4.heap.size) hb (fun _ h => h)) (F' := fun b => b < f4a.heap.size) (fun b h => Nat.lt_of_lt_of_le h hb.size))
      clear HK
      have HK := HK2
      clear HK2
      have HU9 := Lib.hid hu; have HH9 := Lib.hid hha
      clear hb hu hha
      go_wp2_with fail
      (try rw [HU9.out])
      (try rw [HH9.out])
      (try rw [HU9.out])
      clear HU9 HH9
      clear nc5 nlt
      have HLI : Hid (RowOf 1 EInt f4a (fun b => b < f4a.heap.size) (some ⟨ha, 0, none⟩) [5, 2, 4, 3]) := Lib.hid (lit_row (MM.out.blk 0 rfl) (fun i hi => by
        have hi : i < 4 := hi
        rcases (show i = 0 ∨ i = 1 ∨ i = 2 ∨ i = 3 by omega) with rfl | rfl | rfl | rfl <;> rfl))
      refine (res_is (eqB_yes (rfl : ([5, 2, 4, 3] : List Int) = [5, 2, 4, 3])) (ints_any K (some ⟨ha, 0, none⟩) kk 4 [5, 2, 4, 3] [5, 2, 4, 3] f4a _ _ HK.out HLI.out (by simp))).mono ?_
      rintro _ _ ⟨rfl, nq, rfl⟩
      obtain ⟨f5, hu⟩ : ∃ z9 : World, f4a.drewN nq = z9 := ⟨_, rfl⟩
      have hb : Below f4a.heap.size f4a f5 := by rw [← hu]; exact below_drewN (Below.refl _ _) nq
      rw [hu]
      clear hu HLI
      have MM2 : Hid (Mem w f5 ([.blk ha 3 #[.int .i64 5, .int .i64 2, .int .i64 4, .int .i64 3], .blk hz 24 #[.int .i64 0, .slice none 0 0], .blk hn 38 #[.int .i64 1, .string sL, .int .i64 0, .string ⟨#[]⟩, .slice P 0 cp, .slice K 4 kk, .slice R 0 cr], .blk g 24 #[.int .i64 6, .slice Ak 5 ck]])) := Lib.hid (MM.out.call hb)
      clear MM
      have MM := MM2
      clear MM2
      have HR2 := Lib.hid (HR.out.keep ENode.stays (Keep.below (B := f4a.heap.size) hb (fun _ h => h)) (F' := fun b => b < f5.heap.size) (fun b h => Nat.lt_of_lt_of_le h hb.size))
      clear HR
      have HR := HR2
      clear HR2
      have HK2 := Lib.hid (HK.out.keep EInt.stays (Keep.below (B := f4a.heap.size) hb (fun _ h => h)) (F' := fun b => b < f5.heap.size) (fun b h => Nat.lt_of_lt_of_le h hb.size))
      clear HK
      have HK := HK2
      clear HK2
      clear hb
      have gc0 := (MM.out.blk 3 rfl).cell 0
      have gc1 := (MM.out.blk 3 rfl).cell 1
      have glt := (MM.out.blk 3 rfl).lt
      simp at gc0 gc1
      go_wp2_with fail
      refine (wake_kids Ak ck f5 HR.out).mono ?_
      rintro _ f6 ⟨K2, k2, rfl, hkr, hb⟩
      clear gc0 gc1 glt
      have MM2 : Hid (Mem w f6 ([.blk ha 3 #[.int .i64 5, .int .i64 2, .int .i64 4, .int .i64 3], .blk hz 24 #[.int .i64 0, .slice none 0 0], .blk hn 38 #[.int .i64 1, .string sL, .int .i64 0, .string ⟨#[]⟩, .slice P 0 cp, .slice K 4 kk, .slice R 0 cr], .blk g 24 #[.int .i64 6, .slice Ak 5 ck]])) := Lib.hid (MM.out.call hb)
      clear MM
      have MM := MM2
      clear MM2
      have HR2 := Lib.hid (HR.out.keep ENode.stays (Keep.below (B := f5.heap.size) hb (fun _ h => h)) (F' := fun b => b < f6.heap.size) (fun b h => Nat.lt_of_lt_of_le h hb.size))
      clear HR
      have HR := HR2
      clear HR2
      clear HK
      have HK := Lib.hid hkr
      clear hkr hb
      obtain ⟨hc, hhc⟩ : ∃ x, f6.heap.size = x := ⟨_, rfl⟩
      obtain ⟨f6a, hu⟩ : ∃ z9 : World, f6.alloc (.cells #[.int .i64 5, .int .i64 2, .int .i64 4] 3) = z9 := ⟨_, rfl⟩
      have hb : Below f6.heap.size f6 f6a := by rw [← hu]; exact (Below.refl _ _).alloc (Nat.le_refl _) _
      have MM2 : Hid (Mem w f6a ([.blk hc 3 #[.int .i64 5, .int .i64 2, .int .i64 4], .blk ha 3 #[.int .i64 5, .int .i64 2, .int .i64 4, .int .i64 3], .blk hz 24 #[.int .i64 0, .slice none 0 0], .blk hn 38 #[.int .i64 1, .string sL, .int .i64 0, .string ⟨#[]⟩, .slice P 0 cp, .slice K 4 kk, .slice R 0 cr], .blk g 24 #[.int .i64 6, .slice Ak 5 ck]])) := Lib.hid (by rw [← hu]; exact MM.out.allocG hhc #[.int .i64 5, .int .i64 2, .int .i64 4] 3)
      clear MM
      have MM := MM2
      clear MM2
      have HR2 := Lib.hid (HR.out.keep ENode.stays (Keep.below (B := f6.heap.size) hb (fun _ h => h)) (F' := fun b => b < f6a.heap.size) (fun b h => Nat.lt_of_lt_of_le h hb.size))
      clear HR
      have HR := HR2
      clear HR2
      have HK2 := Lib.hid (HK.out.keep EInt.stays (Keep.below (B := f6.heap.size) hb (fun _ h => h)) (F' := fun b => b < f6a.heap.size) (fun b h => Nat.lt_of_lt_of_le h hb.size))
      clear HK
      have HK := HK2
      clear HK2
      have HU9 := Lib.hid hu; have HH9 := Lib.hid hhc
      clear hb hu hhc
      go_wp2_with fail
      (try rw [HU9.out])
      (try rw [HH9.out])
      (try rw [HU9.out])
      clear HU9 HH9
      have HLI : Hid (RowOf 1 EInt f6a (fun b => b < f6a.heap.size) (some ⟨hc, 0, none⟩) [5, 2, 4]) := Lib.hid (lit_row (MM.out.blk 0 rfl) (fun i hi => by
        have hi : i < 3 := hi
        rcases (show i = 0 ∨ i = 1 ∨ i = 2 by omega) with rfl | rfl | rfl <;> rfl))
      refine (res_is (eqB_yes (rfl : ([5, 2, 4] : List Int) = [5, 2, 4])) (ints_any K2 (some ⟨hc, 0, none⟩) k2 3 [5, 2, 4] [5, 2, 4] f6a _ _ HK.out HLI.out (by simp))).mono ?_
      rintro _ _ ⟨rfl, nq, rfl⟩
      obtain ⟨f7, hu⟩ : ∃ z9 : World, f6a.drewN nq = z9 := ⟨_, rfl⟩
      have hb : Below f6a.heap.size f6a f7 := by rw [← hu]; exact below_drewN (Below.refl _ _) nq
      rw [hu]
      clear hu HLI
      have MM2 : Hid (Mem w f7 ([.blk hc 3 #[.int .i64 5, .int .i64 2, .int .i64 4], .blk ha 3 #[.int .i64 5, .int .i64 2, .int .i64 4, .int .i64 3], .blk hz 24 #[.int .i64 0, .slice none 0 0], .blk hn 38 #[.int .i64 1, .string sL, .int .i64 0, .string ⟨#[]⟩, .slice P 0 cp, .slice K 4 kk, .slice R 0 cr], .blk g 24 #[.int .i64 6, .slice Ak 5 ck]])) := Lib.hid (MM.out.call hb)
      clear MM
      have MM := MM2
      clear MM2
      have HR2 := Lib.hid (HR.out.keep ENode.stays (Keep.below (B := f6a.heap.size) hb (fun _ h => h)) (F' := fun b => b < f7.heap.size) (fun b h => Nat.lt_of_lt_of_le h hb.size))
      clear HR
      have HR := HR2
      clear HR2
      have HK2 := Lib.hid (HK.out.keep EInt.stays (Keep.below (B := f6a.heap.size) hb (fun _ h => h)) (F' := fun b => b < f7.heap.size) (fun b h => Nat.lt_of_lt_of_le h hb.size))
      clear HK
      have HK := HK2
      clear HK2
      clear hb
      have gc0 := (MM.out.blk 4 rfl).cell 0
      have gc1 := (MM.out.blk 4 rfl).cell 1
      have glt := (MM.out.blk 4 rfl).lt
      simp at gc0 gc1
      go_wp2_with fail
      refine (wake_check Ak ck f7 HR.out).mono ?_
      rintro _ f8 ⟨rfl, hb⟩
      clear gc0 gc1 glt
      have MM2 : Hid (Mem w f8 ([.blk hc 3 #[.int .i64 5, .int .i64 2, .int .i64 4], .blk ha 3 #[.int .i64 5, .int .i64 2, .int .i64 4, .int .i64 3], .blk hz 24 #[.int .i64 0, .slice none 0 0], .blk hn 38 #[.int .i64 1, .string sL, .int .i64 0, .string ⟨#[]⟩, .slice P 0 cp, .slice K 4 kk, .slice R 0 cr], .blk g 24 #[.int .i64 6, .slice Ak 5 ck]])) := Lib.hid (MM.out.call hb)
      clear MM
      have MM := MM2
      clear MM2
      have HR2 := Lib.hid (HR.out.keep ENode.stays (Keep.below (B := f7.heap.size) hb (fun _ h => h)) (F' := fun b => b < f8.heap.size) (fun b h => Nat.lt_of_lt_of_le h hb.size))
      clear HR
      have HR := HR2
      clear HR2
      clear hb
      have gc0 := (MM.out.blk 4 rfl).cell 0
      have gc1 := (MM.out.blk 4 rfl).cell 1
      have glt := (MM.out.blk 4 rfl).lt
      simp at gc0 gc1
      go_wp2_with fail
      refine (wake_depth Ak ck f8 HR.out).mono ?_
      rintro _ f9 ⟨rfl, hb⟩
      clear gc0 gc1 glt
      have MM2 : Hid (Mem w f9 ([.blk hc 3 #[.int .i64 5, .int .i64 2, .int .i64 4], .blk ha 3 #[.int .i64 5, .int .i64 2, .int .i64 4, .int .i64 3], .blk hz 24 #[.int .i64 0, .slice none 0 0], .blk hn 38 #[.int .i64 1, .string sL, .int .i64 0, .string ⟨#[]⟩, .slice P 0 cp, .slice K 4 kk, .slice R 0 cr], .blk g 24 #[.int .i64 6, .slice Ak 5 ck]])) := Lib.hid (MM.out.call hb)
      clear MM
      have MM := MM2
      clear MM2
      clear hb
      go_wp2
      go_ret
      exact ⟨rfl, MM.out.below⟩
end Go.Proofs.Ytmafhaadcjgcbaa
end
section
/- a row of acts, an act, that are arguments -/
namespace Go.Proofs.Ytmafhaadcjgcbaa
open Go Go.ChangeShapes Go.WideShapes Go.ChangeAt Go.RowKit Go.Deep

def qactCells (a : QAct) : List Value := [.int .i64 a.kind, .int .i64 a.a, .int .i64 a.b, .int .i64 a.at', .string a.word, .string a.text]
def EQAct : World → (Nat → Prop) → QAct → List Value → Prop := EFlat qactCells
theorem EQAct.stays : Stays EQAct := EFlat.stays _
instance : Inhabited QAct := ⟨⟨0, 0, 0, 0, ⟨#[]⟩, ⟨#[]⟩⟩⟩
section
variable {w : World} {F : Nat → Prop} {A : Option Addr}
theorem qact_at {l : List QAct} (h : RowOf 6 EQAct w F A l) {i : Nat} (hi : i < l.length) : ∃ b off, A = some ⟨b, off, none⟩ ∧ F b ∧ w.cell? ⟨b, off + i * 6, none⟩ = some (.int .i64 l[i].kind) ∧ w.cell? ⟨b, off + i * 6 + 1, none⟩ = some (.int .i64 l[i].a) ∧ w.cell? ⟨b, off + i * 6 + 2, none⟩ = some (.int .i64 l[i].b) ∧ w.cell? ⟨b, off + i * 6 + 3, none⟩ = some (.int .i64 l[i].at') ∧ w.cell? ⟨b, off + i * 6 + 4, none⟩ = some (.string l[i].word) ∧ w.cell? ⟨b, off + i * 6 + 5, none⟩ = some (.string l[i].text) := by
  obtain ⟨b, off, rfl, hb⟩ := h.1 (by intro hn; subst hn; simp at hi)
  obtain ⟨cs, _, hx, hc⟩ := h.2 i hi
  have hc := hc b off rfl
  unfold EQAct EFlat at hx
  subst hx
  exact ⟨b, off, rfl, hb, hc 0 (by omega), hc 1 (by omega), hc 2 (by omega), hc 3 (by omega), hc 4 (by omega), hc 5 (by omega)⟩
end
section
variable {H : Type} {enc : TypeId × Value → H} {w : World} {base : Nat} {spare : Nat → Bool} {held : Bool}
theorem qact_trod (fuel : Nat) (cs : List Value) (x : DataW H × List MemPlace) (hl : cs.length = 6) (h : DataW.trod enc Try.prog w base spare held fuel 74 cs = some x) (hw : WtOK Try.prog 74 x.1) :
    ∃ a : QAct, EQAct w (· < w.heap.size) a cs ∧ ActOK a := by
  match cs, hl with
  | [c0, c1, c2, c3, c4, c5], _ =>
    obtain ⟨_, _, k0, _⟩ := field_of_trodW Try.underlying74 h hw 0 _ rfl (by kernel_rfl) (by simp)
    obtain ⟨_, _, k1, _⟩ := field_of_trodW Try.underlying74 h hw 1 _ rfl (by kernel_rfl) (by simp)
    obtain ⟨_, _, k2, _⟩ := field_of_trodW Try.underlying74 h hw 2 _ rfl (by kernel_rfl) (by simp)
    obtain ⟨_, _, k3, _⟩ := field_of_trodW Try.underlying74 h hw 3 _ rfl (by kernel_rfl) (by simp)
    obtain ⟨_, _, k4, _⟩ := field_of_trodW Try.underlying74 h hw 4 _ rfl (by kernel_rfl) (by simp)
    obtain ⟨_, _, k5, _⟩ := field_of_trodW Try.underlying74 h hw 5 _ rfl (by kernel_rfl) (by simp)
    obtain ⟨n0, e0, _, h0⟩ := DataW.trod_int Try.underlying3 k0
    obtain ⟨n1, e1, _, h1⟩ := DataW.trod_int Try.underlying3 k1
    obtain ⟨n2, e2, _, h2⟩ := DataW.trod_int Try.underlying3 k2
    obtain ⟨n3, e3, _, h3⟩ := DataW.trod_int Try.underlying3 k3
    obtain ⟨s4, e4, _, h4⟩ := DataW.trod_string Try.underlying9 k4
    obtain ⟨s5, e5, _, h5⟩ := DataW.trod_string Try.underlying9 k5
    simp at e0 e1 e2 e3 e4 e5
    subst e0 e1 e2 e3 e4 e5
    exact ⟨⟨n0, n1, n2, n3, s4, s5⟩, rfl, wf_in h0, wf_in h1, wf_in h2, wf_in h3, by unfold maxLen at h4; exact h4, by unfold maxLen at h5; exact h5⟩
set_option maxRecDepth 100000 in
theorem qacts_arg {r : Reach} {b0 : Nat} {v : Value} {d : DataW H} {ps : List MemPlace} (hval : Value.okWide Try.prog w r b0 70 v) (h : DataW.Trod enc Try.prog w base spare held 70 v d ps) (hw : WtOK Try.prog 70 d) :
    ∃ l : List QAct, IsRow 6 EQAct w (· < w.heap.size) v l ∧ ∀ y ∈ l, ActOK y := by
  obtain ⟨a, len, cap, rfl⟩ := okWide_slice Try.underlying70 hval
  obtain ⟨fuel, hf⟩ := h
  obtain ⟨l, h1, h2, _⟩ := rowOf_trodW Try.underlying70 (by kernel_rfl : Try.prog.cellsOf 74 = 6) (by omega) qact_trod (by simpa [Value.cells] using hf) hw
  exact ⟨l, h1, h2⟩
set_option maxRecDepth 100000 in
/-- an act that is an argument -/
theorem qact_arg {r : Reach} {b0 : Nat} {v : Value} {d : DataW H} {ps : List MemPlace} (hval : Value.okWide Try.prog w r b0 74 v) (h : DataW.Trod enc Try.prog w base spare held 74 v d ps) (hw : WtOK Try.prog 74 d) :
    ∃ a : QAct, v = .agg (qactCells a).toArray ∧ ActOK a := by
  obtain ⟨cs, rfl, hsz⟩ := okWide_struct Try.underlying74 hval
  have hsz2 := hsz.trans (by kernel_rfl : Try.prog.cellsOf 74 = 6)
  obtain ⟨fuel, hf⟩ := h
  obtain ⟨a, e, ha⟩ := qact_trod fuel cs.toList (d, ps) (by rw [Array.length_toList]; exact hsz2) (by simpa [Value.cells] using hf) hw
  have e : cs.toList = qactCells a := e
  exact ⟨a, by rw [← e], ha⟩
end
end Go.Proofs.Ytmafhaadcjgcbaa
end
section
/- a model that acts make -/
namespace Go.Proofs.Ytmafhaadcjgcbaa
open Go Go.RowKit

theorem done_got2 {w w' : World} {g base : Nat} {A : Option Addr} {c : Nat} {m M : AModel} {E : Int} {v : Value} (hb : Below w.heap.size w w') (hg : g < base) (hr : RowOf 7 ENode w (fun b => g < b ∧ b < w.heap.size) A m.nodes) (h : DoneAs w' base A c m E M v) :
    ∃ A1 c1, v = .tuple #[.agg #[.int .i64 M.next, .slice A1 M.nodes.length c1], .int .i64 E] ∧ RowOf 7 ENode w' (fun b => g < b ∧ b < w'.heap.size) A1 M.nodes := by
  rcases h with ⟨_, rfl, rfl⟩ | ⟨hE, vl, l, rfl, ho, hl⟩
  · exact ⟨A, c, rfl, hr.keep ENode.stays (Keep.below hb (fun _ h => h.2)) (fun b h => ⟨h.1, Nat.lt_of_lt_of_le h.2 hb.size⟩)⟩
  · obtain ⟨A', c', e1, _, _, h3⟩ := ho.isRow (F := fun b => g < b ∧ b < w'.heap.size) (fun b h1 h => ⟨by omega, h⟩)
    rw [hl] at h3 e1
    exact ⟨A', c', by rw [e1, hE], h3⟩
/-- a right model, as it is answered -/
def BuiltAs (w' : World) (v : Value) : Prop := ∃ m A c, v = .agg #[.int .i64 m.next, .slice A m.nodes.length c] ∧ RowOf 7 ENode w' (fun b => b < w'.heap.size) A m.nodes ∧ CheckM m ∧ Few 150 m
set_option maxRecDepth 100000 in
set_option maxHeartbeats 8000000 in
theorem built_any (va : Value) (acts : List QAct) (w : World) (h : IsRow 6 EQAct w (fun b => b < w.heap.size) va acts) (hz : ∀ a ∈ acts, ActOK a) :
    Calls Try.prog 56 #[va] w fun e w' => (∃ v, e = .returned v ∧ BuiltAs w' v) ∧ Below w.heap.size w w' := by
  obtain ⟨Sa, ca, rfl, hc1, hc2, hr⟩ := h
  have HRA := Lib.hid (fun (w' : World) (hb : Below w.heap.size w w') => RowOf.keep EQAct.stays (Keep.below hb fun _ h => h) (F' := fun b => b < w.heap.size) (fun _ h => h) hr)
  have HZ := Lib.hid hz
  unfold maxLen at hc2
  clear hr hz
  obtain ⟨u0, hu0⟩ : ∃ u : World, w.alloc (.cells #[.int .i64 0, .slice none 0 0] 24) = u := ⟨_, rfl⟩
  have MM : Hid (Mem w u0 ([.blk w.heap.size 24 #[.int .i64 0, .slice none 0 0]])) := Lib.hid (by rw [← hu0]; exact (Mem.start w).allocG rfl #[.int .i64 0, .slice none 0 0] 24)
  have HU0 := Lib.hid hu0
  clear hu0
  go_enter Try.func56, Try.ntmps56
  go_wp2_with fail
  (try rw [HU0.out])
  clear HU0
  refine (newA_any u0).mono ?_
  rintro _ w2 ⟨rfl, hb⟩
  have MM2 : Hid (Mem w w2 ([.blk w.heap.size 24 #[.int .i64 0, .slice none 0 0]])) := Lib.hid (MM.out.call hb)
  clear MM
  have MM := MM2
  clear MM2
  clear hb
  obtain ⟨g, hg⟩ : ∃ g, w2.heap.size = g := ⟨_, rfl⟩
  have HWG : Hid (w.heap.size < g) := Lib.hid (by rw [← hg]; exact (MM.out.blk 0 rfl).lt)
  obtain ⟨w3, hu⟩ : ∃ z9 : World, w2.alloc (.cells #[.int .i64 1, .slice none 0 0] 24) = z9 := ⟨_, rfl⟩
  have MM2 : Hid (Mem w w3 ([.blk w.heap.size 24 #[.int .i64 0, .slice none 0 0], .blk g 24 #[.int .i64 1, .slice none 0 0]])) := Lib.hid (by rw [← hu]; exact (MM.out.allocG hg #[.int .i64 1, .slice none 0 0] 24).pick0 [1, 0] _ (by decide) rfl)
  clear MM
  have MM := MM2
  clear MM2
  have HU9 := Lib.hid hu; have HG9 := Lib.hid hg
  clear hu hg
  go_upto_region 3 with fail
  (try rw [HU9.out])
  (try rw [HG9.out])
  clear HU9 HG9
  go_loopg [4] acts.length (fun n s4 wx => ∃ (i : Nat) (m : AModel) (A : Option Addr) (c : Nat), s4 = .int .i64 i ∧ n = acts.length - i ∧ i ≤ acts.length ∧ i ≤ 150 ∧ Mem w wx [.blk w.heap.size 24 #[.int .i64 0, .slice none 0 0], .blk g 24 #[.int .i64 m.next, .slice A m.nodes.length c]] ∧ RowOf 7 ENode wx (fun b => g < b ∧ b < wx.heap.size) A m.nodes ∧ CheckM m ∧ Few i m)
  case atStart => exact ⟨0, m00, none, 0, rfl, rfl, Nat.zero_le _, Nat.zero_le _, MM.out, RowOf.nil _, new_check, new_few⟩
  case round =>
    clear MM
    obtain ⟨i, m, A, c, rfl, rfl, hil, hi150, hm, hr, hcm, hfw⟩ := hrel
    have HR := Lib.hid hr; have HCM := Lib.hid hcm; have HFW := Lib.hid hfw
    have hl4 : m.nodes.length ≤ 4096 := hcm.1.1.2.2
    obtain ⟨n, hn⟩ : ∃ n, m.nodes.length = n := ⟨_, rfl⟩
    rw [hn] at hm hl4
    have HN := Lib.hid hn; have MM := Lib.hid hm
    clear hm hr hcm hfw hn
    have hi0 : (0 : Int) ≤ i := by omega
    by_cases h1 : i < acts.length
    rotate_left 1
    · have xc0 := (MM.out.blk 1 rfl).cell 0
      have xc1 := (MM.out.blk 1 rfl).cell 1
      have xlt := (MM.out.blk 1 rfl).lt
      simp at xc0 xc1
      have rc0 := (MM.out.blk 0 rfl).cell 0
      have rc1 := (MM.out.blk 0 rfl).cell 1
      have rf0 := (MM.out.blk 0 rfl).frozen 0
      have rf1 := (MM.out.blk 0 rfl).frozen 1
      have rlt := (MM.out.blk 0 rfl).lt
      simp at rc0 rc1
      have h1' : ¬ (i : Int) < acts.length := by omega
      have HRR := Lib.hid (MM.out.blk 0 rfl)
      have HSZ : Hid (wr.heap.size = ((wr.setCell ⟨w.heap.size, 0, none⟩ (.int .i64 m.next)).setCell ⟨w.heap.size, 1, none⟩ (.slice A n c)).heap.size) := Lib.hid (by simp)
      go_wp2_with fail
      have hyS := (HRR.out.set_ 0 (.int .i64 m.next)).set_ 1 (.slice A n c)
      have f0 := hyS.cell 0; have f1 := hyS.cell 1
      simp at f0 f1
      have HBW := Lib.hid ((MM.out.below.setCell (p := ⟨w.heap.size, 0, none⟩) (Nat.le_refl _) (.int .i64 m.next)).setCell (p := ⟨w.heap.size, 1, none⟩) (Nat.le_refl _) (.slice A n c))
      refine bodyPost_ret (v := .agg #[.int .i64 m.next, .slice A n c]) (by simp [results, Try.results56, go_sem, f0, f1]) rfl ⟨⟨_, rfl, m, A, c, by rw [HN.out], HR.out.keep ENode.stays ((keep_set _ ⟨w.heap.size, 0, none⟩ _ (fun b hb => ?_)).trans (keep_set _ ⟨w.heap.size, 1, none⟩ _ (fun b hb => ?_))) (fun b hb => by rw [← HSZ.out]; exact hb.2), HCM.out, HFW.out.mono hi150⟩, HBW.out⟩
      · have := HWG.out; have := hb.1; show b ≠ w.heap.size; omega
      · have := HWG.out; have := hb.1; show b ≠ w.heap.size; omega
    have h1' : (i : Int) < acts.length := by omega
    by_cases h2 : i < 150
    rotate_left 1
    · have xc0 := (MM.out.blk 1 rfl).cell 0
      have xc1 := (MM.out.blk 1 rfl).cell 1
      have xlt := (MM.out.blk 1 rfl).lt
      simp at xc0 xc1
      have rc0 := (MM.out.blk 0 rfl).cell 0
      have rc1 := (MM.out.blk 0 rfl).cell 1
      have rf0 := (MM.out.blk 0 rfl).frozen 0
      have rf1 := (MM.out.blk 0 rfl).frozen 1
      have rlt := (MM.out.blk 0 rfl).lt
      simp at rc0 rc1
      have h2' : ¬ (i : Int) < 150 := by omega
      have HRR := Lib.hid (MM.out.blk 0 rfl)
      have HSZ : Hid (wr.heap.size = ((wr.setCell ⟨w.heap.size, 0, none⟩ (.int .i64 m.next)).setCell ⟨w.heap.size, 1, none⟩ (.slice A n c)).heap.size) := Lib.hid (by simp)
      go_wp2_with fail
      have hyS := (HRR.out.set_ 0 (.int .i64 m.next)).set_ 1 (.slice A n c)
      have f0 := hyS.cell 0; have f1 := hyS.cell 1
      simp at f0 f1
      have HBW := Lib.hid ((MM.out.below.setCell (p := ⟨w.heap.size, 0, none⟩) (Nat.le_refl _) (.int .i64 m.next)).setCell (p := ⟨w.heap.size, 1, none⟩) (Nat.le_refl _) (.slice A n c))
      refine bodyPost_ret (v := .agg #[.int .i64 m.next, .slice A n c]) (by simp [results, Try.results56, go_sem, f0, f1]) rfl ⟨⟨_, rfl, m, A, c, by rw [HN.out], HR.out.keep ENode.stays ((keep_set _ ⟨w.heap.size, 0, none⟩ _ (fun b hb => ?_)).trans (keep_set _ ⟨w.heap.size, 1, none⟩ _ (fun b hb => ?_))) (fun b hb => by rw [← HSZ.out]; exact hb.2), HCM.out, HFW.out.mono hi150⟩, HBW.out⟩
      · have := HWG.out; have := hb.1; show b ≠ w.heap.size; omega
      · have := HWG.out; have := hb.1; show b ≠ w.heap.size; omega
    have h2' : (i : Int) < 150 := by omega
    by_cases h3 : n ≤ 300
    rotate_left 1
    · have xc0 := (MM.out.blk 1 rfl).cell 0
      have xc1 := (MM.out.blk 1 rfl).cell 1
      have xlt := (MM.out.blk 1 rfl).lt
      simp at xc0 xc1
      have rc0 := (MM.out.blk 0 rfl).cell 0
      have rc1 := (MM.out.blk 0 rfl).cell 1
      have rf0 := (MM.out.blk 0 rfl).frozen 0
      have rf1 := (MM.out.blk 0 rfl).frozen 1
      have rlt := (MM.out.blk 0 rfl).lt
      simp at rc0 rc1
      have h3' : ¬ (n : Int) ≤ 300 := by omega
      have HRR := Lib.hid (MM.out.blk 0 rfl)
      have HSZ : Hid (wr.heap.size = ((wr.setCell ⟨w.heap.size, 0, none⟩ (.int .i64 m.next)).setCell ⟨w.heap.size, 1, none⟩ (.slice A n c)).heap.size) := Lib.hid (by simp)
      go_wp2_with fail
      have hyS := (HRR.out.set_ 0 (.int .i64 m.next)).set_ 1 (.slice A n c)
      have f0 := hyS.cell 0; have f1 := hyS.cell 1
      simp at f0 f1
      have HBW := Lib.hid ((MM.out.below.setCell (p := ⟨w.heap.size, 0, none⟩) (Nat.le_refl _) (.int .i64 m.next)).setCell (p := ⟨w.heap.size, 1, none⟩) (Nat.le_refl _) (.slice A n c))
      refine bodyPost_ret (v := .agg #[.int .i64 m.next, .slice A n c]) (by simp [results, Try.results56, go_sem, f0, f1]) rfl ⟨⟨_, rfl, m, A, c, by rw [HN.out], HR.out.keep ENode.stays ((keep_set _ ⟨w.heap.size, 0, none⟩ _ (fun b hb => ?_)).trans (keep_set _ ⟨w.heap.size, 1, none⟩ _ (fun b hb => ?_))) (fun b hb => by rw [← HSZ.out]; exact hb.2), HCM.out, HFW.out.mono hi150⟩, HBW.out⟩
      · have := HWG.out; have := hb.1; show b ≠ w.heap.size; omega
      · have := HWG.out; have := hb.1; show b ≠ w.heap.size; omega
    have h3' : (n : Int) ≤ 300 := by omega
    obtain ⟨a, ha⟩ : ∃ a, acts[i] = a := ⟨_, rfl⟩
    have HAO : Hid (ActOK a) := Lib.hid (by rw [← ha]; exact HZ.out _ (List.getElem_mem h1))
    obtain ⟨hS1, hS2, hS3⟩ := done_step a HCM.out HFW.out
    obtain ⟨M, hM⟩ : ∃ M, doneM m a = M := ⟨_, rfl⟩
    obtain ⟨E, hE⟩ : ∃ E, doneE m a = E := ⟨_, rfl⟩
    have HDN : Hid (∀ w', RowOf 7 ENode w' (fun b => g < b ∧ b < w'.heap.size) A m.nodes → Calls Try.prog 54 #[.agg #[.int .i64 m.next, .slice A n c], .agg #[.int .i64 a.kind, .int .i64 a.a, .int .i64 a.b, .int .i64 a.at', .string a.word, .string a.text]] w' fun e w2 => (∃ v, e = .returned v ∧ DoneAs w2 w'.heap.size A c m E M v) ∧ Below w'.heap.size w' w2) := Lib.hid (fun w' h => by
      have := done_any A c m w' (fun b => g < b ∧ b < w'.heap.size) (fun _ h => h.2) h HCM.out i (by omega) HFW.out a HAO.out
      rw [hM, hE, HN.out] at this
      exact this)
    rw [hM] at hS1 hS2
    have HCS := Lib.hid hS1; have HFS := Lib.hid hS2
    obtain ⟨ba, oa, rfl, hba, d0, d1, d2, d3, d4, d5⟩ := qact_at (HRA.out w (Below.refl _ _)) h1
    rw [ha] at d0 d1 d2 d3 d4 d5
    have HSM : Hid (∀ w', Below w.heap.size w w' → w'.cell? ⟨ba, oa + i * 6, none⟩ = some (.int .i64 a.kind) ∧ w'.cell? ⟨ba, oa + i * 6 + 1, none⟩ = some (.int .i64 a.a) ∧ w'.cell? ⟨ba, oa + i * 6 + 2, none⟩ = some (.int .i64 a.b) ∧ w'.cell? ⟨ba, oa + i * 6 + 3, none⟩ = some (.int .i64 a.at') ∧ w'.cell? ⟨ba, oa + i * 6 + 4, none⟩ = some (.string a.word) ∧ w'.cell? ⟨ba, oa + i * 6 + 5, none⟩ = some (.string a.text)) := Lib.hid (fun w' hb => by
      have hk := fun p (hp : p.block < w.heap.size) => hb.cell (p := p) hp
      exact ⟨(hk ⟨ba, _, none⟩ hba).trans d0, (hk ⟨ba, _, none⟩ hba).trans d1, (hk ⟨ba, _, none⟩ hba).trans d2, (hk ⟨ba, _, none⟩ hba).trans d3, (hk ⟨ba, _, none⟩ hba).trans d4, (hk ⟨ba, _, none⟩ hba).trans d5⟩)
    clear hM hE hS1 hS2 hS3 ha d0 d1 d2 d3 d4 d5
    have xc0 := (MM.out.blk 1 rfl).cell 0
    have xc1 := (MM.out.blk 1 rfl).cell 1
    have xlt := (MM.out.blk 1 rfl).lt
    simp at xc0 xc1
    go_upto_region 5 with fail
    clear xc0 xc1 xlt
    obtain ⟨u, hu⟩ : ∃ z9 : World, wr.drew = z9 := ⟨_, rfl⟩
    have MM2 : Hid (Mem w u ([.blk w.heap.size 24 #[.int .i64 0, .slice none 0 0], .blk g 24 #[.int .i64 m.next, .slice A n c]])) := Lib.hid (by rw [← hu]; exact MM.out.drew)
    clear MM
    have MM := MM2
    clear MM2
    have HDU : Hid (Below wr.heap.size wr u) := Lib.hid (by rw [← hu]; exact (Below.refl _ _).drew)
    have HRU : Hid (RowOf 7 ENode u (fun b => g < b ∧ b < u.heap.size) A m.nodes) := Lib.hid (HR.out.keep ENode.stays (Keep.below HDU.out (fun _ h => h.2)) (fun b h => ⟨h.1, Nat.lt_of_lt_of_le h.2 HDU.out.size⟩))
    refine wp_region_X (S := (fun w' : World => w'.cell? ⟨ba, oa + i * 6, none⟩ = some (.int .i64 a.kind) ∧ w'.cell? ⟨ba, oa + i * 6 + 1, none⟩ = some (.int .i64 a.a) ∧ w'.cell? ⟨ba, oa + i * 6 + 2, none⟩ = some (.int .i64 a.b) ∧ w'.cell? ⟨ba, oa + i * 6 + 3, none⟩ = some (.int .i64 a.at') ∧ w'.cell? ⟨ba, oa + i * 6 + 4, none⟩ = some (.string a.word) ∧ w'.cell? ⟨ba, oa + i * 6 + 5, none⟩ = some (.string a.text))) 9 (by kernel_rfl) (by rw [hu]; exact HSM.out _ MM.out.below) (fun hHeld => ?_)
    rw [hu] at hHeld ⊢
    clear hu
    refine wpAnyX_take (i := 1) (v := ?_) rfl (by kernel_rfl) (by kernel_rfl) (by kernel_rfl) (by kernel_rfl) (fun _ _ _ h => h) (Or.inl ⟨by rfl, ?_⟩) (by assumption) ?_
    rotate_left 1
    · (intro w' hSw; obtain ⟨s0, s1, s2, s3, s4, s5⟩ := hSw; go_simp); try with_reducible rfl
    try simp only [Act.put, List.setIfInBounds_toArray, List.set_cons_zero, List.set_cons_succ, Nat.zero_add]
    refine wpAnyX_take (i := 2) (v := ?_) rfl (by kernel_rfl) (by kernel_rfl) (by kernel_rfl) (by kernel_rfl) (fun _ _ _ h => h) (Or.inl ⟨by rfl, ?_⟩) (by assumption) ?_
    rotate_left 1
    · (intro w' hSw; obtain ⟨s0, s1, s2, s3, s4, s5⟩ := hSw; go_simp); try with_reducible rfl
    try simp only [Act.put, List.setIfInBounds_toArray, List.set_cons_zero, List.set_cons_succ, Nat.zero_add]
    refine wpAnyX_take (i := 3) (v := ?_) rfl (by kernel_rfl) (by kernel_rfl) (by kernel_rfl) (by kernel_rfl) (fun _ _ _ h => h) (Or.inl ⟨by rfl, ?_⟩) (by assumption) ?_
    rotate_left 1
    · (intro w' hSw; obtain ⟨s0, s1, s2, s3, s4, s5⟩ := hSw; go_simp); try with_reducible rfl
    try simp only [Act.put, List.setIfInBounds_toArray, List.set_cons_zero, List.set_cons_succ, Nat.zero_add]
    refine wpAnyX_take (i := 4) (v := ?_) rfl (by kernel_rfl) (by kernel_rfl) (by kernel_rfl) (by kernel_rfl) (fun _ _ _ h => h) (Or.inl ⟨by rfl, ?_⟩) (by assumption) ?_
    rotate_left 1
    · (intro w' hSw; obtain ⟨s0, s1, s2, s3, s4, s5⟩ := hSw; go_simp); try with_reducible rfl
    try simp only [Act.put, List.setIfInBounds_toArray, List.set_cons_zero, List.set_cons_succ, Nat.zero_add]
    refine wpAnyX_one (i := 0) rfl (by kernel_rfl) (fun K hK => ?_)
    have xc0 := (MM.out.blk 1 rfl).cell 0
    have xc1 := (MM.out.blk 1 rfl).cell 1
    have xlt := (MM.out.blk 1 rfl).lt
    simp at xc0 xc1
    go_simp
    refine hK.out _ _ (fun _ => hHeld) ?_
    clear xc0 xc1 xlt
    clear hK K
    try simp only [Act.put, List.setIfInBounds_toArray, List.set_cons_zero, List.set_cons_succ, Nat.zero_add]
    refine wpAnyX_one (i := 5) rfl (by kernel_rfl) (fun K hK => ?_)
    go_simp
    refine (HDN.out _ HRU.out).mono ?_
    rintro _ x2 ⟨⟨v, rfl, hd⟩, hb⟩
    obtain ⟨A1, c1, rfl, hrow⟩ := done_got2 hb (MM.out.blk 1 rfl).lt HRU.out hd
    have HR1 := Lib.hid hrow
    clear hd hrow
    have MM2 : Hid (Mem w x2 ([.blk w.heap.size 24 #[.int .i64 0, .slice none 0 0], .blk g 24 #[.int .i64 m.next, .slice A n c]])) := Lib.hid (MM.out.call hb)
    clear MM
    have MM := MM2
    clear MM2
    clear hb
    go_simp
    have hHeldx2 := HSM.out _ MM.out.below
    refine hK.out _ _ (fun _ => hHeldx2) ?_
    clear hK K
    try simp only [Act.put, List.setIfInBounds_toArray, List.set_cons_zero, List.set_cons_succ, Nat.zero_add]
    refine wpAnyX_take (i := 6) (v := ?_) rfl (by kernel_rfl) (by kernel_rfl) (by kernel_rfl) (by kernel_rfl) (fun _ _ _ h => h) (Or.inl ⟨by rfl, ?_⟩) (by assumption) ?_
    rotate_left 1
    · (intro w' hSw; obtain ⟨s0, s1, s2, s3, s4, s5⟩ := hSw; go_simp); try with_reducible rfl
    try simp only [Act.put, List.setIfInBounds_toArray, List.set_cons_zero, List.set_cons_succ, Nat.zero_add]
    refine wpAnyX_take (i := 7) (v := ?_) rfl (by kernel_rfl) (by kernel_rfl) (by kernel_rfl) (by kernel_rfl) (fun _ _ _ h => h) (Or.inl ⟨by rfl, ?_⟩) (by assumption) ?_
    rotate_left 1
    · (intro w' hSw; obtain ⟨s0, s1, s2, s3, s4, s5⟩ := hSw; go_simp); try with_reducible rfl
    try simp only [Act.put, List.setIfInBounds_toArray, List.set_cons_zero, List.set_cons_succ, Nat.zero_add]
    refine wpAnyX_two (i := 8) (j := 9) rfl rfl (by kernel_rfl) (fun K hK => ?_) (fun K hK => ?_)
    · go_simp
      refine hK.out _ _ (fun _ => hHeldx2) ?_
      clear hK K
      try simp only [Act.put, List.setIfInBounds_toArray, List.set_cons_zero, List.set_cons_succ, Nat.zero_add]
      refine wpAnyX_one (i := 9) rfl (by kernel_rfl) (fun K hK => ?_)
      have xc0 := (MM.out.blk 1 rfl).cell 0
      have xc1 := (MM.out.blk 1 rfl).cell 1
      have xf0 := (MM.out.blk 1 rfl).frozen 0
      have xf1 := (MM.out.blk 1 rfl).frozen 1
      have xlt := (MM.out.blk 1 rfl).lt
      simp at xc0 xc1
      have HR2 : Hid (RowOf 7 ENode ((x2.setCell ⟨g, 0, none⟩ (.int .i64 M.next)).setCell ⟨g, 1, none⟩ (.slice A1 M.nodes.length c1)) (fun b => g < b ∧ b < ((x2.setCell ⟨g, 0, none⟩ (.int .i64 M.next)).setCell ⟨g, 1, none⟩ (.slice A1 M.nodes.length c1)).heap.size) A1 M.nodes) := Lib.hid (HR1.out.keep ENode.stays ((keep_set _ ⟨g, 0, none⟩ _ (fun b hb => Nat.ne_of_gt hb.1)).trans (keep_set _ ⟨g, 1, none⟩ _ (fun b hb => Nat.ne_of_gt hb.1))) (fun b hb => by have h2 := hb; simpa using h2))
      have MM2 : Hid (Mem w ((x2.setCell ⟨g, 0, none⟩ (.int .i64 M.next)).setCell ⟨g, 1, none⟩ (.slice A1 M.nodes.length c1)) ([.blk w.heap.size 24 #[.int .i64 0, .slice none 0 0], .blk g 24 #[.int .i64 M.next, .slice A1 M.nodes.length c1]])) := Lib.hid ((MM.out.set_ 1 rfl 0 (.int .i64 M.next)).set_ 1 rfl 1 (.slice A1 M.nodes.length c1))
      go_simp
      refine hK.out _ _ (fun h9 => ?_) ?_
      · first | exact absurd rfl h9 | exact HSM.out _ MM2.out.below
      clear xf0 xf1 xc0 xc1 xlt
      clear MM HR1
      have MM := MM2
      clear MM2
      clear hK K
      try simp only [Act.put, List.setIfInBounds_toArray, List.set_cons_zero, List.set_cons_succ, Nat.zero_add]
      refine wpAnyX_done (by kernel_rfl) ?_ _
      go_wp2_with fail
      go_roundg (acts.length - (i + 1))
      case measure => omega
      case rel => exact ⟨i + 1, M, A1, c1, by go_num, rfl, by omega, by omega, MM.out, HR2.out, HCS.out, HFS.out⟩
    · have xc0 := (MM.out.blk 1 rfl).cell 0
      have xc1 := (MM.out.blk 1 rfl).cell 1
      have xf0 := (MM.out.blk 1 rfl).frozen 0
      have xf1 := (MM.out.blk 1 rfl).frozen 1
      have xlt := (MM.out.blk 1 rfl).lt
      simp at xc0 xc1
      have HR2 : Hid (RowOf 7 ENode ((x2.setCell ⟨g, 0, none⟩ (.int .i64 M.next)).setCell ⟨g, 1, none⟩ (.slice A1 M.nodes.length c1)) (fun b => g < b ∧ b < ((x2.setCell ⟨g, 0, none⟩ (.int .i64 M.next)).setCell ⟨g, 1, none⟩ (.slice A1 M.nodes.length c1)).heap.size) A1 M.nodes) := Lib.hid (HR1.out.keep ENode.stays ((keep_set _ ⟨g, 0, none⟩ _ (fun b hb => Nat.ne_of_gt hb.1)).trans (keep_set _ ⟨g, 1, none⟩ _ (fun b hb => Nat.ne_of_gt hb.1))) (fun b hb => by have h2 := hb; simpa using h2))
      have MM2 : Hid (Mem w ((x2.setCell ⟨g, 0, none⟩ (.int .i64 M.next)).setCell ⟨g, 1, none⟩ (.slice A1 M.nodes.length c1)) ([.blk w.heap.size 24 #[.int .i64 0, .slice none 0 0], .blk g 24 #[.int .i64 M.next, .slice A1 M.nodes.length c1]])) := Lib.hid ((MM.out.set_ 1 rfl 0 (.int .i64 M.next)).set_ 1 rfl 1 (.slice A1 M.nodes.length c1))
      go_simp
      refine hK.out _ _ (fun h9 => ?_) ?_
      · first | exact absurd rfl h9 | exact HSM.out _ MM2.out.below
      clear xf0 xf1 xc0 xc1 xlt
      clear MM HR1
      have MM := MM2
      clear MM2
      clear hK K
      try simp only [Act.put, List.setIfInBounds_toArray, List.set_cons_zero, List.set_cons_succ, Nat.zero_add]
      refine wpAnyX_one (i := 8) rfl (by kernel_rfl) (fun K hK => ?_)
      go_simp
      refine hK.out _ _ (fun _ => (HSM.out _ MM.out.below)) ?_
      clear hK K
      try simp only [Act.put, List.setIfInBounds_toArray, List.set_cons_zero, List.set_cons_succ, Nat.zero_add]
      refine wpAnyX_done (by kernel_rfl) ?_ _
      go_wp2_with fail
      go_roundg (acts.length - (i + 1))
      case measure => omega
      case rel => exact ⟨i + 1, M, A1, c1, by go_num, rfl, by omega, by omega, MM.out, HR2.out, HCS.out, HFS.out⟩
end Go.Proofs.Ytmafhaadcjgcbaa
end
