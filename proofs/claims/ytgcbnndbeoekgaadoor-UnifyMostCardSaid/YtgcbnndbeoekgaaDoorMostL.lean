import Derived.Test.YtgcbnndbeoekgaaDoorAwakeP
import Derived.Test.YtgcbnndbeoekgaaDoorFewP
import Derived.Test.YtgcbnndbeoekgaaDoorNFP
import Derived.Test.YtgcbnndbeoekgaaDoorAlikeU
import Derived.Test.YtgcbnndbeoekgaaDoorTerm
import Derived.Test.YtgcbnndbeoekgaaDoorSolveQ
import Derived.Test.YtgcbnndbeoekgaaDoorFoldsU
import Derived.Test.YtgcbnndbeoekgaaDoorApplyU
import Derived.Test.YtgcbnndbeoekgaaDoorOwnB
set_option linter.unusedSimpArgs false
set_option linter.unusedVariables false
section
/- what a bound that is found does to terms; what is found where there is another: in plain Lean -/
namespace Go.Proofs.YtgcbnndbeoekgaaDoor
open Go Go.RowKit

theorem size_sub {σ : Nat → Option Fo} (h : One1 σ) : ∀ K : Fo, K.size ≤ (K.sub σ).size
  | .nil => Nat.le_refl _
  | .hole n r => by
    show 1 + r.size ≤ ((stood σ n).app2 (r.sub σ)).size
    rw [Fo.size_app2]
    have := Fo.one_size (h.stood n)
    have := size_sub h r
    omega
  | .app _ k r => by
    show 1 + k.size + r.size ≤ 1 + (k.sub σ).size + (r.sub σ).size
    have := size_sub h k
    have := size_sub h r
    omega
section
variable {bs us : List (Nat × Fo)} {E : List (Fo × Fo)}
/-- what one bound makes, and then another that solves it -/
theorem sub_after (hb : NF bs) (hu : NF us) (hs : SatB (valB us) bs) {T : Fo} (hT : T.one) : (T.sub (lookB bs)).sub (lookB us) = T.sub (lookB us) := by
  refine ev_leaf_inj (sub_one1 hu.onesB.2 (sub_one1 hb.onesB.2 hT)) (sub_one1 hu.onesB.2 hT) ?_
  rw [← ev_valB hu, ← ev_valB hu]
  have h1 : ev (valB us) (T.sub (lookB bs)) = ev (fun n => ev (valB us) (std bs n)) T := evF_sub hb.onesB.2 T 0
  rw [h1]
  congr 1
  funext n
  exact (satB_std hs n).symm
theorem std_size (h : ∀ p ∈ us, p.2.size ≤ 256) (n : Nat) : (std us n).size ≤ 256 := by
  unfold std stood
  cases e : lookB us n with
  | none => show 1 ≤ 256; omega
  | some T => exact h _ (lookB_mem e)
/-- where there is a bound, there is one found -/
theorem find_ok {o : Outc} (h : Comes E o) (hu : NF us) (h256 : ∀ p ∈ us, p.2.size ≤ 256) (hs : Sat (valB us) E) : ∃ bs, o = .ok bs := by
  cases o with
  | clash => exact absurd hs (h _)
  | occurs => exact absurd hs (h.2 _ (fin_valB us))
  | ok bs => exact ⟨bs, rfl⟩
  | long =>
    exfalso
    obtain ⟨bs, hb, hi, p, hp, hl⟩ := h
    have h1 : valB us p.1 = ev (valB us) p.2 := (hi _).1 hs p hp
    rw [ev_valB hu] at h1
    have h2 := ev_leaf_inj (std_one hu p.1) (sub_one1 hu.onesB.2 (hb.one p hp)) h1
    have h3 := std_size h256 p.1
    have h4 := size_sub hu.onesB.2 p.2
    rw [← h2] at h4
    omega
end
section
variable {b u : List ABind} {l l1 l2 : List TN}
theorem may_nf (h : MayP b) : NF (bsOf b) := nf_of_may h (bsOf_ok h) (bsOf_ok h).eq
theorem may_256 (h : MayP b) : ∀ p ∈ bsOf b, p.2.size ≤ 256 := fun p hp => ((bsOf_ok h).ok p hp).2.2.2
theorem sub_is_one (h : MayP b) (h2 : rightI l = 0) : (subOf b l).one := sub_one1 (may_nf h).onesB.2 (treeOf_ok h2).1
theorem sub_is_wf (h : MayP b) (h2 : rightI l = 0) : (subOf b l).wf := Fo.sub_wf (bsOf_ok h).ones (treeOf_ok h2).2.1
theorem sub_okT (h : MayP b) (h2 : rightI l = 0) (h3 : ¬ 256 < (subOf b l).size) : OkT (subOf b l) := ⟨sub_is_one h h2, sub_is_wf h h2, by omega⟩
theorem sub_right (h : MayP b) (h2 : rightI l = 0) (h3 : ¬ 256 < (subOf b l).size) : rightI ((subOf b l).flat 0) = 0 := right_tree (sub_is_one h h2) (sub_is_wf h h2) (by omega)
theorem tree_sub (h : MayP b) (h2 : rightI l = 0) (h3 : ¬ 256 < (subOf b l).size) : treeOf ((subOf b l).flat 0) = subOf b l := treeOf_flat (sub_is_one h h2) (sub_is_wf h h2) (by omega)
theorem apply_fact (b : List ABind) (l : List TN) : (applyE b l = 0 ∧ MayP b ∧ rightI l = 0 ∧ ¬ 256 < (subOf b l).size ∧ applyL b l = (subOf b l).flat 0) ∨ (applyE b l = 3 ∧ rightI l = 0 ∧ applyL b l = []) ∨ (applyE b l ≠ 0 ∧ (MayP b → applyE b l = rightI l) ∧ applyL b l = []) := by
  by_cases h : MayP b
  · by_cases h2 : rightI l = 0
    · by_cases h3 : 256 < (subOf b l).size
      · obtain ⟨a, c⟩ := apply_long h h2 h3
        exact .inr (.inl ⟨a, h2, c⟩)
      · obtain ⟨a, c⟩ := apply_ok h h2 h3
        exact .inl ⟨a, h, h2, h3, c⟩
    · obtain ⟨a, c⟩ := apply_bad h h2
      exact .inr (.inr ⟨by rw [a]; exact h2, fun _ => a, c⟩)
  · obtain ⟨a, c⟩ := apply_not h
    exact .inr (.inr ⟨by rw [a]; decide, fun h' => absurd h' h, c⟩)
/-- a bound makes both terms of a pair alike: it solves the pair -/
theorem solves_pair (h : MayP u) (h2 : rightI l1 = 0) (h3 : rightI l2 = 0) (e : subOf u l1 = subOf u l2) : ev (valB (bsOf u)) (treeOf l1) = ev (valB (bsOf u)) (treeOf l2) := by
  rw [ev_valB (may_nf h), ev_valB (may_nf h)]
  exact congrArg (ev leaf) e
theorem pair_solved (h : MayP u) (h2 : rightI l1 = 0) (h3 : rightI l2 = 0) (e : ev (valB (bsOf u)) (treeOf l1) = ev (valB (bsOf u)) (treeOf l2)) : subOf u l1 = subOf u l2 := by
  rw [ev_valB (may_nf h), ev_valB (may_nf h)] at e
  exact ev_leaf_inj (sub_is_one h h2) (sub_is_one h h3) e
end
section
variable {ps ps' : List (List TN × List TN)} {k : Nat} {out u : List ABind}
theorem SolvedTo.may (h : SolvedTo ps k out) : MayP out := by
  obtain ⟨bs, h1, h2⟩ := h.out
  rw [h2]; exact ok_may h.wf h1
theorem SolvedTo.bs (h : SolvedTo ps k out) : Comes (eqsP ps k) (.ok (bsOf out)) := by
  obtain ⟨bs, h1, h2⟩ := h.out
  rw [h2, bsOf_map h.wf h1]; exact h1
theorem mem_eqsP {i : Nat} (hi : i < ps.length) (hk : i < k) : (treeOf ps[i].1, treeOf ps[i].2) ∈ eqsP ps k :=
  List.mem_map.2 ⟨ps[i], List.mem_take_iff_getElem.2 ⟨i, by omega, rfl⟩, rfl⟩
/-- what is found makes both terms of each pair alike -/
theorem SolvedTo.alike (h : SolvedTo ps k out) {i : Nat} (hi : i < ps.length) (hk : i < k) : subOf out ps[i].1 = subOf out ps[i].2 := by
  have h1 := h.bs
  have h2 : Sat (valB (bsOf out)) (eqsP ps k) := (h1.2.1 _).2 (valB_sat h1.1)
  obtain ⟨r1, r2⟩ := h.right i hi hk
  exact pair_solved h.may r1 r2 (h2 _ (mem_eqsP hi hk))
/-- all pairs are of right terms, and have a bound -/
def Fine (ps : List (List TN × List TN)) : Prop := (∀ p ∈ ps, rightI p.1 = 0 ∧ rightI p.2 = 0) ∧ ∃ us, NF us ∧ (∀ p ∈ us, p.2.size ≤ 256) ∧ Sat (valB us) (eqsP ps ps.length)
theorem StepErr.ne {err : Int} (h : StepErr ps k err) : err ≠ 0 := by
  obtain ⟨_, ⟨a, b⟩ | ⟨_, a, b⟩ | ⟨_, _, o, _, a, b⟩⟩ := h
  · rw [b]; exact a
  · rw [b]; exact a
  · cases o with
    | ok bs => exact absurd rfl (a bs)
    | clash => rw [b.1]; decide
    | occurs => rw [b.1]; decide
    | long => rw [b.1]; decide
theorem SolvedTo.fine (h : SolvedTo ps ps.length out) : Fine ps :=
  ⟨fun p hp => by
    obtain ⟨i, hi, rfl⟩ := List.getElem_of_mem hp
    exact h.right i hi hi, bsOf out, h.bs.1, h.bs.2.2, (h.bs.2.1 _).2 (valB_sat h.bs.1)⟩
theorem SolveSays.ok_of {err at_ : Int} (h : SolveSays ps err at_ out) (hl : ps.length ≤ 4096) (hf : Fine ps) : SolvedTo ps ps.length out ∧ err = 0 ∧ at_ = 0 := by
  rcases h with ⟨a, _⟩ | ⟨_, a, b, c⟩ | ⟨_, k, o, a, ⟨hk, c⟩, _⟩
  · omega
  · exact ⟨a, b, c⟩
  · exfalso
    obtain ⟨f1, us, f2, f3, f4⟩ := hf
    obtain ⟨r1, r2⟩ := f1 _ (List.getElem_mem hk)
    rcases c with ⟨c, _⟩ | ⟨_, c, _⟩ | ⟨_, _, o', c, d, _⟩
    · exact c r1
    · exact c r2
    · obtain ⟨bs, e⟩ := find_ok c f2 f3 (fun p hp => f4 p (by
        obtain ⟨q, hq, rfl⟩ := List.mem_map.1 hp
        refine List.mem_map.2 ⟨q, ?_, rfl⟩
        rw [List.take_length]
        exact List.mem_of_mem_take hq))
      exact d bs e
/-- what Solve says: it is found, or it is not, and there is none -/
theorem SolveSays.cases {err at_ : Int} (h : SolveSays ps err at_ out) (hl : ps.length ≤ 4096) : (err = 0 ∧ at_ = 0 ∧ SolvedTo ps ps.length out) ∨ (err ≠ 0 ∧ out = [] ∧ ¬ Fine ps ∧ 0 ≤ at_ ∧ at_ < (ps.length : Nat)) := by
  rcases h with ⟨a, _⟩ | ⟨_, a, b, c⟩ | ⟨h4, k, o, a, b, c, d⟩
  · omega
  · exact .inl ⟨b, c, a⟩
  · refine .inr ⟨b.ne, d, fun hf => b.ne ?_, by omega, by have := b.choose; omega⟩
    exact (SolveSays.ok_of (.inr (.inr ⟨h4, k, o, a, b, c, d⟩)) hl hf).2.1
/-- what is found is the most general -/
theorem most_plain {l : List TN} (h : SolvedTo ps ps.length out) (hu : MayP u) (hp : ∀ p ∈ ps, subOf u p.1 = subOf u p.2) (hl : rightI l = 0) (h3 : ¬ 256 < (subOf u l).size) : ¬ 256 < (subOf out l).size ∧ subOf u ((subOf out l).flat 0) = subOf u l := by
  have hb := h.bs
  have hs : SatB (valB (bsOf u)) (bsOf out) := (hb.2.1 _).1 fun p hpm => by
    obtain ⟨q, hq, rfl⟩ := List.mem_map.1 hpm
    rw [List.take_length] at hq
    obtain ⟨i, hi, rfl⟩ := List.getElem_of_mem hq
    obtain ⟨r1, r2⟩ := h.right i hi hi
    exact solves_pair hu r1 r2 (hp _ hq)
  have e := sub_after hb.1 (may_nf hu) hs (treeOf_ok hl).1
  have e : (subOf out l).sub (lookB (bsOf u)) = subOf u l := e
  have h4 := size_sub (may_nf hu).onesB.2 (subOf out l)
  rw [e] at h4
  have h5 : ¬ 256 < (subOf out l).size := by omega
  refine ⟨h5, ?_⟩
  have e2 : subOf u ((subOf out l).flat 0) = (treeOf ((subOf out l).flat 0)).sub (lookB (bsOf u)) := rfl
  rw [e2, tree_sub h.may hl h5, e]
/-- another bound that makes all pairs alike: there is one found -/
theorem fine_of (hu : MayP u) (hr : ∀ p ∈ ps, rightI p.1 = 0 ∧ rightI p.2 = 0) (hp : ∀ p ∈ ps, subOf u p.1 = subOf u p.2) : Fine ps :=
  ⟨hr, bsOf u, may_nf hu, may_256 hu, fun p hpm => by
    obtain ⟨q, hq, rfl⟩ := List.mem_map.1 hpm
    have hq := List.mem_of_mem_take hq
    exact solves_pair hu (hr q hq).1 (hr q hq).2 (hp q hq)⟩
/-- a bound makes the pairs ahead alike -/
def Alk (u : List ABind) (ps : List (List TN × List TN)) (i : Nat) : Prop := ∀ j (h : j < ps.length), j < i → MayP u ∧ rightI ps[j].1 = 0 ∧ rightI ps[j].2 = 0 ∧ subOf u ps[j].1 = subOf u ps[j].2
theorem Alk.start (u : List ABind) (ps : List (List TN × List TN)) : Alk u ps 0 := fun _ _ h => absurd h (Nat.not_lt_zero _)
theorem apply_tree {l : List TN} (h : applyE u l = 0) : ∃ T, OkT T ∧ applyL u l = T.flat 0 ∧ MayP u ∧ rightI l = 0 ∧ subOf u l = T := by
  rcases apply_fact u l with ⟨_, a, b, c, d⟩ | ⟨a, _⟩ | ⟨a, _⟩
  · exact ⟨_, sub_okT a b c, d, a, b, rfl⟩
  · rw [a] at h; exact absurd h (by decide)
  · exact absurd h a
theorem apply_none {l : List TN} (h : applyE u l ≠ 0) : applyL u l = [] := by
  rcases apply_fact u l with ⟨a, _⟩ | ⟨_, _, a⟩ | ⟨_, _, a⟩
  · exact absurd a h
  · exact a
  · exact a
theorem Alk.next {i : Nat} (h : Alk u ps i) (hi : i < ps.length) (h1 : applyE u ps[i].1 = 0) (h2 : applyE u ps[i].2 = 0) : ∃ T1 T2, OkT T1 ∧ OkT T2 ∧ applyL u ps[i].1 = T1.flat 0 ∧ applyL u ps[i].2 = T2.flat 0 ∧ (T1 = T2 → Alk u ps (i + 1)) := by
  obtain ⟨T1, a1, a2, a3, a4, a5⟩ := apply_tree h1
  obtain ⟨T2, b1, b2, _, b4, b5⟩ := apply_tree h2
  refine ⟨T1, T2, a1, b1, a2, b2, fun e j hj hji => ?_⟩
  by_cases hlt : j < i
  · exact h j hj hlt
  · have : j = i := by omega
    subst this
    exact ⟨a3, a4, b4, by rw [a5, b5, e]⟩
theorem Alk.fine (h : Alk u ps ps.length) : Fine ps := by
  cases ps with
  | nil => exact ⟨(fun p h => by cases h), [], ⟨List.Pairwise.nil, (fun p hp => by cases hp), (fun p hp => by cases hp), (fun p hp => by cases hp), (fun p hp => by cases hp)⟩, (fun p hp => by cases hp), (fun p hp => by cases hp)⟩
  | cons p r =>
    refine fine_of (h 0 (by simp) (by simp)).1 (fun q hq => ?_) (fun q hq => ?_)
    · obtain ⟨i, hi, rfl⟩ := List.getElem_of_mem hq
      have := h i hi hi
      exact ⟨this.2.1, this.2.2.1⟩
    · obtain ⟨i, hi, rfl⟩ := List.getElem_of_mem hq
      exact (h i hi hi).2.2.2
/-- the end of the law -/
theorem most_end {l : List TN} (h : SolvedTo ps ps.length out) (ha : Alk u ps ps.length) (hg : applyE u l = 0) : ∃ T Y, OkT T ∧ OkT Y ∧ applyL u l = T.flat 0 ∧ applyE out l = 0 ∧ applyL out l = Y.flat 0 ∧ applyE u (Y.flat 0) = 0 ∧ applyL u (Y.flat 0) = T.flat 0 := by
  rcases apply_fact u l with ⟨_, a, b, c, d⟩ | ⟨a, _⟩ | ⟨a, _⟩
  · obtain ⟨m1, m2⟩ := most_plain h a (fun p hp => by
      obtain ⟨i, hi, rfl⟩ := List.getElem_of_mem hp
      exact (ha i hi hi).2.2.2) b c
    obtain ⟨e1, e2⟩ := apply_ok h.may b m1
    have hr := sub_right h.may b m1
    obtain ⟨f1, f2⟩ := apply_ok (l := (subOf out l).flat 0) a hr (by rw [m2]; exact c)
    exact ⟨_, _, sub_okT a b c, sub_okT h.may b m1, d, e1, e2, f1, by rw [f2, m2]⟩
  · rw [a] at hg; exact absurd hg (by decide)
  · exact absurd hg a
end
end Go.Proofs.YtgcbnndbeoekgaaDoor
end
section
/- the law's alike: two terms that are not one are not alike -/
namespace Go.Proofs.YtgcbnndbeoekgaaDoor
open Go Go.RowKit

theorem bl_list (s : ByteArray) : s.toList = s.data.toList := ByteArray.toList_eq s
theorem bl_inj {a b : ByteArray} (h : a.toList = b.toList) : a = b := by
  rw [bl_list, bl_list] at h
  cases a; cases b
  congr 1
  exact Array.toList_inj.1 h
/-- a text tells its tree -/
theorem txt_inj {T U : Fo} (hT : OkT T) (hU : OkT U) (h : byt (T.txt false) = byt (U.txt false)) : T = U := by
  have h1 : Says (byt (T.txt false)) 0 0 (T.flat 0) := .inl ⟨rfl, rfl, reads_one hT.1 hT.2.1 hT.2.2 rfl⟩
  have h2 : Says (byt (U.txt false)) 0 0 (U.flat 0) := .inl ⟨rfl, rfl, reads_one hU.1 hU.2.1 hU.2.2 rfl⟩
  rw [h] at h1
  exact flat_inj hT.1 hU.1 hT.2.1 hU.2.1 (h1.same h2).2.2

set_option maxRecDepth 100000 in
set_option maxHeartbeats 1000000 in
theorem ualike_no (S : Option Addr) (k : Nat) (S' : Option Addr) (k' : Nat) (T U : Fo) (hT : OkT T) (hU : OkT U) (hne : T ≠ U) (w : World) (F : Nat → Prop) (hF : ∀ b, F b → b < w.heap.size) (hr : RowOf 3 ETN w F S (T.flat 0)) (hlc : (T.flat 0).length ≤ k) (hc : k ≤ maxLen) (hr' : RowOf 3 ETN w F S' (U.flat 0)) (hlc' : (U.flat 0).length ≤ k') (hc' : k' ≤ maxLen)
    (ht : Lib.TabIs Tryd.prog w "internal/strconv.uint64pow10" .u64 Lib.pow10Tab) :
    Calls Tryd.prog 15 #[.agg #[.slice S (T.flat 0).length k], .agg #[.slice S' (U.flat 0).length k']] w fun e w' => e = .returned (.bool false) ∧ Below w.heap.size w w' := by
  have hz : ∀ t ∈ T.flat 0, t.name.size ≤ 9223372036854775807 := fun t ht => node_small (flat_nodeR T 0 hT.2.1 t ht)
  have hz' : ∀ t ∈ U.flat 0, t.name.size ≤ 9223372036854775807 := fun t ht => node_small (flat_nodeR U 0 hU.2.1 t ht)
  have hg := right_tree hT.1 hT.2.1 hT.2.2
  have hg' := right_tree hU.1 hU.2.1 hU.2.2
  have HP : Hid (∀ w', Below w.heap.size w w' → Calls Tryd.prog 10 #[.agg #[.slice S (T.flat 0).length k]] w' fun e w2 => e = .returned (.string (byt (T.txt false))) ∧ Below w'.heap.size w' w2) := Lib.hid (fun w' hb => uprint_good S k T w' F (fun b h => Nat.lt_of_lt_of_le (hF b h) hb.size) hT.1 hT.2.1 hT.2.2 hlc hc (hr.keep ETN.stays (Keep.below hb hF) (fun _ h => h)) hg hz ((Lib.tabBelow_of_tabIs ht).on hb).here)
  have HP' : Hid (∀ w', Below w.heap.size w w' → Calls Tryd.prog 10 #[.agg #[.slice S' (U.flat 0).length k']] w' fun e w2 => e = .returned (.string (byt (U.txt false))) ∧ Below w'.heap.size w' w2) := Lib.hid (fun w' hb => uprint_good S' k' U w' F (fun b h => Nat.lt_of_lt_of_le (hF b h) hb.size) hU.1 hU.2.1 hU.2.2 hlc' hc' (hr'.keep ETN.stays (Keep.below hb hF) (fun _ h => h)) hg' hz' ((Lib.tabBelow_of_tabIs ht).on hb).here)
  have hns : byt (T.txt false) ≠ byt (U.txt false) := fun e => hne (txt_inj hT hU e)
  obtain ⟨n, hn⟩ : ∃ n, (T.flat 0).length = n := ⟨_, rfl⟩
  obtain ⟨n', hn'⟩ : ∃ n, (U.flat 0).length = n := ⟨_, rfl⟩
  obtain ⟨s, hs⟩ : ∃ s, byt (T.txt false) = s := ⟨_, rfl⟩
  obtain ⟨s', hs'⟩ : ∃ s, byt (U.txt false) = s := ⟨_, rfl⟩
  rw [hn, hs] at HP
  rw [hn', hs'] at HP'
  rw [hs, hs'] at hns
  rw [hn, hn']
  have g0 : ¬ s.toList = s'.toList := fun e => hns (bl_inj e)
  clear hr hr' hz hz' hg hg' hn hn' hs hs' hlc hlc' ht hne hns
  go_enter Tryd.func15, Tryd.ntmps15
  obtain ⟨w0, hw0⟩ : ∃ x : World, (w.alloc (.cells #[.slice S n k] 24)).alloc (.cells #[.slice S' n' k'] 24) = x := ⟨_, rfl⟩
  have HB0 : Hid (Below w.heap.size w w0) := Lib.hid (by rw [← hw0]; exact ((Below.refl w.heap.size w).alloc (Nat.le_refl _) _).alloc (by simp) _)
  have HX0 : Hid (Blk w0 (w.heap.size + 1) 24 #[.slice S' n' k']) := Lib.hid (by rw [← hw0]; exact Blk.new' (by simp))
  have HWE := Lib.hid hw0
  clear hw0
  go_wp2_with fail
  (try rw [HWE.out])
  refine (HP.out _ HB0.out).mono ?_
  rintro _ w2 ⟨rfl, hb2⟩
  have HB2 : Hid (Below w.heap.size w w2) := Lib.hid (HB0.out.trans (hb2.mono HB0.out.size))
  have HX2 := Lib.hid (HX0.out.below hb2 HX0.out.lt)
  have c0 := HX2.out.cell 0
  have hxl := HX2.out.lt
  simp at c0
  clear hb2 HB0 HX0 HWE
  go_wp2_with fail
  refine (HP'.out _ HB2.out).mono ?_
  rintro _ w3 ⟨rfl, hb3⟩
  have HB3 : Hid (Below w.heap.size w w3) := Lib.hid (HB2.out.trans (hb3.mono HB2.out.size))
  clear hb3 c0 hxl
  go_wp2
  go_ret
  exact ⟨rfl, HB3.out⟩
end Go.Proofs.YtgcbnndbeoekgaaDoor
end
section
/- the law: what is found is the most general, and is found wherever there is another; given that awake answers true -/
namespace Go.Proofs.YtgcbnndbeoekgaaDoor
open Go Go.RowKit Go.Maps

theorem okT_names2 {T : Fo} (h : OkT T) : ∀ t ∈ T.flat 0, t.name.size ≤ 9223372036854775807 := fun t ht => node_small (flat_nodeR T 0 h.2.1 t ht)

set_option maxRecDepth 100000 in
set_option maxHeartbeats 16000000 in
theorem mostL_any (HAW : AwakeOk) (v0 : Value) (ps : List (List TN × List TN)) (vb : Value) (bd : List ABind) (u : Value) (l : List TN) (w : World) (hr0 : IsRow 2 EPair w (fun b => b < w.heap.size) v0 ps) (hz : ∀ p ∈ ps, TermAll p.1 ∧ TermAll p.2) (hrb : IsRow 2 EBind w (fun b => b < w.heap.size) vb bd) (hzb : ∀ x ∈ bd, TermAll x.term) (hx : IsRow 3 ETN w (fun b => b < w.heap.size) u l) (hzx : TermAll l) (ht : Tab w) :
    Calls Tryd.prog 6 #[v0, vb, .agg #[u]] w fun e w' => e = .returned (.bool true) ∧ Below w.heap.size w w' := by
  obtain ⟨A, c, rfl, b1, b2, hr⟩ := hr0
  obtain ⟨Ab, cb, rfl, z1, z2, z3⟩ := hrb
  obtain ⟨S, k, rfl, x1, x2, x3⟩ := hx
  have HR := Lib.hid hr; have HZ := Lib.hid hz; have HTB := Lib.hid ht; have HX := Lib.hid x3; have HZX := Lib.hid hzx; have HXC := Lib.hid (And.intro x1 x2)
  have HRB := Lib.hid z3; have HZB := Lib.hid hzb; have HBC := Lib.hid (And.intro z1 z2)
  have HC : Hid (ps.length ≤ c ∧ c ≤ maxLen) := Lib.hid ⟨b1, b2⟩
  have HLB : Hid (∀ n ∈ pairLens ps 1000, n ≤ 140737488355328) := Lib.hid (fun n hn => by
    obtain ⟨p, hp, h⟩ := List.mem_flatMap.1 hn
    have hp := hz p (List.mem_of_mem_take hp)
    have h1 := hp.1.2; have h2 := hp.2.2
    simp only [List.mem_cons, List.not_mem_nil, or_false] at h
    rcases h with rfl | rfl <;> omega)
  have HLL : Hid ((pairLens ps 1000).length ≤ 4000) := Lib.hid (by have := pairLens_len ps 1000; omega)
  have HSM : Hid (∀ p ∈ ps, (∀ t ∈ p.1, t.name.size ≤ 9223372036854775807) ∧ ∀ t ∈ p.2, t.name.size ≤ 9223372036854775807) := Lib.hid (fun p hp => ⟨fun t ht => ((HZ.out p hp).1.1 t ht).1, fun t ht => ((HZ.out p hp).2.1 t ht).1⟩)
  have HSMX : Hid (∀ t ∈ l, t.name.size ≤ 9223372036854775807) := Lib.hid (fun t ht => (HZX.out.1 t ht).1)
  have HSMB : Hid (∀ x ∈ bd, ∀ t ∈ x.term, t.name.size ≤ 9223372036854775807 ∧ InI t.var) := Lib.hid (fun x hx t ht => ⟨((HZB.out x hx).1 t ht).1, ((HZB.out x hx).1 t ht).2.1⟩)
  have HLA : Hid (∀ x ∈ bd, x.term.length ≤ 2932031007402 ∧ ∀ t ∈ x.term, t.args.length ≤ 17592186044416) := Lib.hid (fun x hx => ⟨(HZB.out x hx).2, fun t ht => ((HZB.out x hx).1 t ht).2.2⟩)
  unfold maxLen at b2 z2
  obtain ⟨n, hn⟩ : ∃ n, ps.length = n := ⟨_, rfl⟩
  have HN := Lib.hid hn
  obtain ⟨m, hm⟩ : ∃ m, l.length = m := ⟨_, rfl⟩
  have HM := Lib.hid hm
  obtain ⟨nb, hnb⟩ : ∃ n, bd.length = n := ⟨_, rfl⟩
  have HNB := Lib.hid hnb
  rw [hn] at b1 ⊢
  rw [hnb] at z1 ⊢
  rw [hm]
  clear hr hz hn ht hm hzx x1 x2 x3 hnb z3 hzb
  go_enter Tryd.func6, Tryd.ntmps6
  obtain ⟨u1, hu⟩ : ∃ u : World, w.alloc (.cells #[.slice S m k] 24) = u := ⟨_, rfl⟩
  have HBU : Below w.heap.size w u1 := by rw [← hu]; exact (Below.refl _ _).alloc (Nat.le_refl _) _
  have HBX : Hid (Blk u1 w.heap.size 24 #[.slice S m k]) := Lib.hid (by rw [← hu]; exact Blk.new _ _ _)
  have HUE := Lib.hid hu
  clear hu
  have HB_w : Hid (Below w.heap.size w u1) := Lib.hid HBU
  clear HBU
  go_wp2_with fail
  (try rw [HUE.out])
  refine (HAW _ (HTB.out.below HB_w.out)).mono ?_
  rintro _ w0 ⟨rfl, hb⟩
  replace HB_w : Hid (Below w.heap.size w w0) := Lib.hid (HB_w.out.trans (hb.mono HB_w.out.size))
  replace HBX := Lib.hid (HBX.out.below hb HBX.out.lt)
  clear hb HUE HAW
  have HOF := Lib.hid (of_any A c ps w0 (fun b => b < w.heap.size) (fun b h => Nat.lt_of_lt_of_le h HB_w.out.size) (HR.out.keep EPair.stays (Keep.below HB_w.out (fun b h => h)) (fun _ h => h)) HC.out.1 HC.out.2)
  rw [HN.out] at HOF
  by_cases h100 : 100 < n
  · have h100' : (100 : Int) < n := by omega
    go_wp2_with fail
    go_ret
    exact ⟨rfl, HB_w.out⟩
  have h100' : ¬ (100 : Int) < n := by omega
  go_wp2_with fail
  refine HOF.out.mono ?_
  rintro _ w1 ⟨v1, rfl, hv1, hb⟩
  replace HB_w : Hid (Below w.heap.size w w1) := Lib.hid (HB_w.out.trans (hb.mono HB_w.out.size))
  replace HBX := Lib.hid (HBX.out.below hb HBX.out.lt)
  have HV1 := Lib.hid (wide_any v1 (pairLens ps 1000) w1 _ hv1 HLB.out HLL.out)
  clear hv1 hb HOF HLB HLL
  by_cases hw : 400 < (pairLens ps 1000).sum
  · have HD : Hid (decide (400 < (pairLens ps 1000).sum) = true) := Lib.hid (decide_eq_true hw)
    rw [HD.out] at HV1
    clear hw
    go_wp2_with (go_at_call 16; refine HV1.out.mono ?_; rintro e w' ⟨rfl, rfl⟩)
    go_ret
    exact ⟨rfl, HB_w.out⟩
  have HD : Hid (decide (400 < (pairLens ps 1000).sum) = false) := Lib.hid (decide_eq_false hw)
  rw [HD.out] at HV1
  have HT : Hid (Tried ps) := Lib.hid (fun _ => ⟨by omega, .inl (by rw [HN.out]; omega)⟩)
  clear hw
  by_cases h1000 : 1000 < nb
  · have h1000' : (1000 : Int) < nb := by omega
    go_wp2_with (go_at_call 16; refine HV1.out.mono ?_; rintro e w' ⟨rfl, rfl⟩)
    go_ret
    exact ⟨rfl, HB_w.out⟩
  have h1000' : ¬ (1000 : Int) < nb := by omega
  have HOW := Lib.hid (own_any Ab cb bd w1 (fun b => b < w1.heap.size) (fun b h => h) (HRB.out.keep EBind.stays (Keep.below HB_w.out (fun b h => h)) (fun b h => Nat.lt_of_lt_of_le h HB_w.out.size)) HBC.out.1 HBC.out.2 (by rw [HNB.out]; omega) HLA.out)
  rw [HNB.out] at HOW
  go_upto_region 5 with (go_at_call 16; refine HV1.out.mono ?_; rintro e w' ⟨rfl, rfl⟩)
  clear HV1 HD
  go_wp2_with fail
  refine HOW.out.mono ?_
  rintro _ w5 ⟨vo, rfl, hro, hb⟩
  replace HB_w : Hid (Below w.heap.size w w5) := Lib.hid (HB_w.out.trans (hb.mono HB_w.out.size))
  replace HBX := Lib.hid (HBX.out.below hb HBX.out.lt)
  obtain ⟨Ad, cd, rfl, y1, y2, y3⟩ := hro
  have HDR : Hid (RowOf 2 EBind w5 (fun b => b < w5.heap.size) Ad bd) := Lib.hid (y3.keep EBind.stays (Keep.refl _ _) (fun b h => h.2)); have HDC := Lib.hid (And.intro y1 y2)
  clear HOW hb y1 y2 y3
  rw [HNB.out]
  have HAPP : Hid (∀ (u : World) (S1 : Option Addr) (c1 : Nat) (l1 : List TN), Below w5.heap.size w5 u → RowOf 3 ETN u (fun b => b < u.heap.size) S1 l1 → l1.length ≤ c1 → c1 ≤ maxLen → (∀ t ∈ l1, t.name.size ≤ 9223372036854775807) → Calls Tryd.prog 19 #[.slice Ad nb cd, .agg #[.slice S1 l1.length c1]] u (TermRes u (applyE bd l1) (applyL bd l1))) := Lib.hid (fun u S1 c1 l1 hu h1 h2 h3 h4 => by
    rw [← HNB.out]
    exact uapply_any Ad cd bd S1 c1 l1 u (fun b => b < u.heap.size) (fun b h => h) h1 (HDR.out.keep EBind.stays (Keep.below hu (fun b h => h)) (fun b h => Nat.lt_of_lt_of_le h hu.size)) h2 h3 HDC.out.1 HDC.out.2 (by rw [HNB.out]; omega) h4 HSMB.out)
  go_upto_region 7 with fail
  go_loopg [8] n (fun g s8 wx => ∃ (i : Nat), s8 = .int .i64 i ∧ g = n - i ∧ i ≤ n ∧ Alk bd ps i ∧ Below w5.heap.size w5 wx)
  case atStart => exact ⟨0, rfl, rfl, Nat.zero_le _, Alk.start _ _, Below.refl _ _⟩
  case round =>
    obtain ⟨i, rfl, rfl, hi, hak, hb⟩ := hrel
    have i0 : (0 : Int) ≤ i := by omega
    have HAK := Lib.hid hak
    have HB5 := Lib.hid hb
    replace HB_w : Hid (Below w.heap.size w wr) := Lib.hid (HB_w.out.trans (hb.mono HB_w.out.size))
    have HB_w5 : Hid (Below w5.heap.size w5 wr) := Lib.hid hb
    replace HBX := Lib.hid (HBX.out.below hb HBX.out.lt)
    clear hb hak
    by_cases hin : i < n
    · have hin' : (i : Int) < n := by omega
      have HIP : Hid (i < ps.length) := Lib.hid (by rw [HN.out]; exact hin)
      obtain ⟨b, off, S1, c1, S2, c2, rfl, hbF, d0, d1, ⟨x1, x2, x3⟩, y1, y2, y3⟩ := pair_at HR.out HIP.out
      have HAE := Lib.hid (HAK.out.next HIP.out)
      have HNO := Lib.hid (And.intro (fun h => apply_none (u := bd) (l := (ps[i]'HIP.out).1) h) (fun h => apply_none (u := bd) (l := (ps[i]'HIP.out).2) h))
      obtain ⟨l1, hl1⟩ : ∃ z, (ps[i]'HIP.out).1 = z := ⟨_, rfl⟩
      obtain ⟨l2, hl2⟩ : ∃ z, (ps[i]'HIP.out).2 = z := ⟨_, rfl⟩
      have HZK := Lib.hid (HSM.out _ (List.getElem_mem HIP.out))
      rw [hl1] at d0 x1 x3 HZK
      rw [hl2] at d1 y1 y3 HZK
      rw [hl1, hl2] at HAE HNO
      have HX1 := Lib.hid (And.intro x3 (And.intro x1 x2)); have HX2 := Lib.hid (And.intro y3 (And.intro y1 y2))
      have HD0 := Lib.hid (And.intro d0 d1)
      clear hl1 hl2 x1 x2 x3 y1 y2 y3 d0 d1
      have HA1 := Lib.hid (HAPP.out wr S1 c1 l1 HB_w5.out (HX1.out.1.keep ETN.stays (Keep.below HB_w.out (fun b h => h)) (fun b h => Nat.lt_of_lt_of_le h HB_w.out.size)) HX1.out.2.1 HX1.out.2.2 HZK.out.1)
      obtain ⟨m1, hm1⟩ : ∃ z, l1.length = z := ⟨_, rfl⟩
      obtain ⟨m2, hm2⟩ : ∃ z, l2.length = z := ⟨_, rfl⟩
      have HM2 := Lib.hid hm2
      rw [hm1] at HA1
      rw [hm1, hm2] at HD0
      clear hm1 hm2
      have d0 := (HB_w.out.cell (p := ⟨b, off + i * 2, none⟩) hbF).trans HD0.out.1
      obtain ⟨e1, he1⟩ : ∃ z, applyE bd l1 = z := ⟨_, rfl⟩
      obtain ⟨e2, he2⟩ : ∃ z, applyE bd l2 = z := ⟨_, rfl⟩
      obtain ⟨L1, hL1⟩ : ∃ z, applyL bd l1 = z := ⟨_, rfl⟩
      obtain ⟨L2, hL2⟩ : ∃ z, applyL bd l2 = z := ⟨_, rfl⟩
      rw [he1, he2, hL1, hL2] at HAE HNO
      rw [he1, hL1] at HA1
      have HE2 := Lib.hid he2; have HL2 := Lib.hid hL2
      clear he1 he2 hL1 hL2
      go_wp2_with fail
      (try rw [HUE.out])
      refine (HA1.out).mono ?_
      rintro _ w2 ⟨vy, rfl, hb, hr⟩
      obtain ⟨Ay, cy, rfl, y1, y2, y3⟩ := hr
      have HRy := Lib.hid y3
      have HCy := Lib.hid (And.intro y1 y2)
      try clear HUE
      replace HB_w : Hid (Below w.heap.size w w2) := Lib.hid (HB_w.out.trans (hb.mono HB_w.out.size))
      replace HB_w5 : Hid (Below w5.heap.size w5 w2) := Lib.hid (HB_w5.out.trans (hb.mono HB_w5.out.size))
      replace HBX := Lib.hid (HBX.out.below hb HBX.out.lt)
      clear hb y1 y2 y3
      obtain ⟨ly, hly⟩ : ∃ z, L1.length = z := ⟨_, rfl⟩
      have HLY := Lib.hid hly
      rw [hly]
      clear hly
      obtain ⟨u3, hu⟩ : ∃ u : World, w2.alloc (.cells #[.slice Ay ly cy] 24) = u := ⟨_, rfl⟩
      have HBU : Below w2.heap.size w2 u3 := by rw [← hu]; exact (Below.refl _ _).alloc (Nat.le_refl _) _
      have HBY : Hid (Blk u3 w2.heap.size 24 #[.slice Ay ly cy]) := Lib.hid (by rw [← hu]; exact Blk.new _ _ _)
      have HUE := Lib.hid hu
      clear hu
      replace HB_w : Hid (Below w.heap.size w u3) := Lib.hid (HB_w.out.trans (HBU.mono HB_w.out.size))
      replace HB_w5 : Hid (Below w5.heap.size w5 u3) := Lib.hid (HB_w5.out.trans (HBU.mono HB_w5.out.size))
      have HB_w2 : Hid (Below w2.heap.size w2 u3) := Lib.hid HBU
      replace HBX := Lib.hid (HBX.out.below HBU HBX.out.lt)
      clear HBU
      go_upto_region 10 with fail
      (try rw [HUE.out])
      (try clear HUE)
      clear d0
      have d1 := (HB_w.out.cell (p := ⟨b, off + i * 2 + 1, none⟩) hbF).trans HD0.out.2
      have HA2 := Lib.hid (HAPP.out u3 S2 c2 l2 HB_w5.out (HX2.out.1.keep ETN.stays (Keep.below HB_w.out (fun b h => h)) (fun b h => Nat.lt_of_lt_of_le h HB_w.out.size)) HX2.out.2.1 HX2.out.2.2 HZK.out.2)
      rw [HM2.out, HE2.out, HL2.out] at HA2
      go_wp2_with fail
      (try rw [HUE.out])
      refine (HA2.out).mono ?_
      rintro _ w4 ⟨vz, rfl, hb, hr⟩
      obtain ⟨Az, cz, rfl, y1, y2, y3⟩ := hr
      have HRz := Lib.hid y3
      have HCz := Lib.hid (And.intro y1 y2)
      try clear HUE
      replace HB_w : Hid (Below w.heap.size w w4) := Lib.hid (HB_w.out.trans (hb.mono HB_w.out.size))
      replace HB_w5 : Hid (Below w5.heap.size w5 w4) := Lib.hid (HB_w5.out.trans (hb.mono HB_w5.out.size))
      replace HB_w2 : Hid (Below w2.heap.size w2 w4) := Lib.hid (HB_w2.out.trans (hb.mono HB_w2.out.size))
      replace HBX := Lib.hid (HBX.out.below hb HBX.out.lt)
      replace HBY := Lib.hid (HBY.out.below hb HBY.out.lt)
      clear hb y1 y2 y3
      obtain ⟨lz, hlz⟩ : ∃ z, L2.length = z := ⟨_, rfl⟩
      have HLZ := Lib.hid hlz
      rw [hlz]
      clear hlz
      obtain ⟨u5, hu⟩ : ∃ u : World, w4.alloc (.cells #[.slice Az lz cz] 24) = u := ⟨_, rfl⟩
      have HBU : Below w4.heap.size w4 u5 := by rw [← hu]; exact (Below.refl _ _).alloc (Nat.le_refl _) _
      have HBZ : Hid (Blk u5 w4.heap.size 24 #[.slice Az lz cz]) := Lib.hid (by rw [← hu]; exact Blk.new _ _ _)
      have HUE := Lib.hid hu
      clear hu
      replace HB_w : Hid (Below w.heap.size w u5) := Lib.hid (HB_w.out.trans (HBU.mono HB_w.out.size))
      replace HB_w5 : Hid (Below w5.heap.size w5 u5) := Lib.hid (HB_w5.out.trans (HBU.mono HB_w5.out.size))
      replace HB_w2 : Hid (Below w2.heap.size w2 u5) := Lib.hid (HB_w2.out.trans (HBU.mono HB_w2.out.size))
      have HB_w4 : Hid (Below w4.heap.size w4 u5) := Lib.hid HBU
      replace HBX := Lib.hid (HBX.out.below HBU HBX.out.lt)
      replace HBY := Lib.hid (HBY.out.below HBU HBY.out.lt)
      clear HBU
      go_upto_region 11 with fail
      (try rw [HUE.out])
      (try clear HUE)
      clear d1 HA1 HA2
      by_cases g1 : e1 = 0
      rotate_left 1
      · have g1' : (e1 != 0) = true := by simp; exact g1
        clear g1
        go_wp2_with fail
        go_ret
        exact ⟨rfl, HB_w.out⟩
      subst g1
      by_cases g2 : e2 = 0
      rotate_left 1
      · have g2' : (e2 != 0) = true := by simp; exact g2
        clear g2
        go_wp2_with fail
        go_ret
        exact ⟨rfl, HB_w.out⟩
      subst g2
      obtain ⟨T1, T2, t1, t2, t3, t4, t5⟩ := HAE.out rfl rfl
      have HOT := Lib.hid (And.intro t1 t2)
      have HFL := Lib.hid (And.intro t3 t4)
      have HT5 := Lib.hid t5
      clear t1 t2 t3 t4 t5
      by_cases hT : T1 = T2
      rotate_left 1
      · have HAL := Lib.hid (ualike_no Ay cy Az cz T1 T2 HOT.out.1 HOT.out.2 hT u5 (fun b => b < u5.heap.size) (fun b h => h)
          (by rw [← HFL.out.1]; exact (HRy.out.keep ETN.stays (Keep.below HB_w2.out (fun b h => h)) (fun b h => Nat.lt_of_lt_of_le h HB_w2.out.size))) (by rw [← HFL.out.1]; exact HCy.out.1) HCy.out.2 (by rw [← HFL.out.2]; exact (HRz.out.keep ETN.stays (Keep.below HB_w4.out (fun b h => h)) (fun b h => Nat.lt_of_lt_of_le h HB_w4.out.size))) (by rw [← HFL.out.2]; exact HCz.out.1) HCz.out.2 (HTB.out.below HB_w.out))
        rw [← HFL.out.1, ← HFL.out.2, HLY.out, HLZ.out] at HAL
        have HBYc0 := HBY.out.cell 0
        have HBYlt := HBY.out.lt
        simp at HBYc0
        have HBZc0 := HBZ.out.cell 0
        have HBZlt := HBZ.out.lt
        simp at HBZc0
        go_wp2_with fail
        refine HAL.out.mono ?_
        rintro _ w9 ⟨rfl, hb⟩
        replace HB_w : Hid (Below w.heap.size w w9) := Lib.hid (HB_w.out.trans (hb.mono HB_w.out.size))
        replace HB_w5 : Hid (Below w5.heap.size w5 w9) := Lib.hid (HB_w5.out.trans (hb.mono HB_w5.out.size))
        replace HB_w2 : Hid (Below w2.heap.size w2 w9) := Lib.hid (HB_w2.out.trans (hb.mono HB_w2.out.size))
        replace HB_w4 : Hid (Below w4.heap.size w4 w9) := Lib.hid (HB_w4.out.trans (hb.mono HB_w4.out.size))
        replace HBX := Lib.hid (HBX.out.below hb HBX.out.lt)
        replace HBY := Lib.hid (HBY.out.below hb HBY.out.lt)
        replace HBZ := Lib.hid (HBZ.out.below hb HBZ.out.lt)
        clear hb HAL HBYc0 HBYlt HBZc0 HBZlt
        go_wp2
        go_ret
        exact ⟨rfl, HB_w.out⟩
      have HNX := Lib.hid (HT5.out hT)
      subst hT
      have HLZY : Hid (ly = lz) := Lib.hid (by rw [← HLY.out, ← HLZ.out, HFL.out.1, HFL.out.2])
      have HAL := Lib.hid (ualike_any Ay cy Az cz T1 HOT.out.1 u5 (fun b => b < u5.heap.size) (fun b h => h)
        (by rw [← HFL.out.1]; exact (HRy.out.keep ETN.stays (Keep.below HB_w2.out (fun b h => h)) (fun b h => Nat.lt_of_lt_of_le h HB_w2.out.size))) (by rw [← HFL.out.1]; exact HCy.out.1) HCy.out.2 (by rw [← HFL.out.2]; exact (HRz.out.keep ETN.stays (Keep.below HB_w4.out (fun b h => h)) (fun b h => Nat.lt_of_lt_of_le h HB_w4.out.size))) (by rw [← HFL.out.2]; exact HCz.out.1) HCz.out.2 (HTB.out.below HB_w.out))
      rw [← HFL.out.1, HLY.out] at HAL
      rw [← HLZY.out] at HBZ
      rw [← HLZY.out]
      have HBYc0 := HBY.out.cell 0
      have HBYlt := HBY.out.lt
      simp at HBYc0
      have HBZc0 := HBZ.out.cell 0
      have HBZlt := HBZ.out.lt
      simp at HBZc0
      go_wp2_with fail
      refine HAL.out.mono ?_
      rintro _ w9 ⟨rfl, hb⟩
      replace HB_w : Hid (Below w.heap.size w w9) := Lib.hid (HB_w.out.trans (hb.mono HB_w.out.size))
      replace HB_w5 : Hid (Below w5.heap.size w5 w9) := Lib.hid (HB_w5.out.trans (hb.mono HB_w5.out.size))
      replace HB_w2 : Hid (Below w2.heap.size w2 w9) := Lib.hid (HB_w2.out.trans (hb.mono HB_w2.out.size))
      replace HB_w4 : Hid (Below w4.heap.size w4 w9) := Lib.hid (HB_w4.out.trans (hb.mono HB_w4.out.size))
      replace HBX := Lib.hid (HBX.out.below hb HBX.out.lt)
      replace HBY := Lib.hid (HBY.out.below hb HBY.out.lt)
      replace HBZ := Lib.hid (HBZ.out.below hb HBZ.out.lt)
      clear hb HAL HBYc0 HBYlt HBZc0 HBZlt
      go_wp2_with fail
      go_roundg (n - (i + 1))
      case measure => omega
      case rel => exact ⟨i + 1, by go_num, rfl, by omega, HNX.out, HB_w5.out⟩
    · have hin' : ¬ (i : Int) < n := by omega
      have HAL : Hid (Alk bd ps ps.length) := Lib.hid (by have h := HAK.out; rw [show i = ps.length by rw [HN.out]; omega] at h; exact h)
      have HS := Lib.hid (usolve_any A c ps wr (fun b => b < w.heap.size) (fun b h => Nat.lt_of_lt_of_le h HB_w.out.size) (HR.out.keep EPair.stays (Keep.below HB_w.out (fun b h => h)) (fun _ h => h)) HC.out.1 HC.out.2 HSM.out HT.out.few)
      rw [HN.out] at HS
      go_wp2_with fail
      refine HS.out.mono ?_
      rintro _ ws ⟨err, at_, out, v, hsay, rfl, hrow, hb⟩
      replace HB_w : Hid (Below w.heap.size w ws) := Lib.hid (HB_w.out.trans (hb.mono HB_w.out.size))
      replace HB_w5 : Hid (Below w5.heap.size w5 ws) := Lib.hid (HB_w5.out.trans (hb.mono HB_w5.out.size))
      replace HBX := Lib.hid (HBX.out.below hb HBX.out.lt)
      obtain ⟨Ae, ce, rfl, y1, y2, y3⟩ := hrow
      have HER : Hid (RowOf 2 EBind ws (fun b => b < ws.heap.size) Ae out) := Lib.hid (y3.keep EBind.stays (Keep.refl _ _) (fun b h => h.2)); have HEC := Lib.hid (And.intro y1 y2)
      obtain ⟨hso, rfl, rfl⟩ := hsay.ok_of (by rw [HN.out]; omega) HAL.out.fine
      have HSO := Lib.hid hso
      have HFEW : Hid (out.length ≤ 1048576) := Lib.hid (by have := HT.out.few (by rw [HN.out]; omega) _ _ hso; omega)
      clear hso hsay HS hb y1 y2 y3
      obtain ⟨d, hd⟩ : ∃ d, out.length = d := ⟨_, rfl⟩
      have HDN := Lib.hid hd
      rw [hd]
      clear hd
      have HAPE : Hid (∀ (u : World) (S1 : Option Addr) (c1 : Nat) (l1 : List TN), Below ws.heap.size ws u → RowOf 3 ETN u (fun b => b < u.heap.size) S1 l1 → l1.length ≤ c1 → c1 ≤ maxLen → (∀ t ∈ l1, t.name.size ≤ 9223372036854775807) → Calls Tryd.prog 19 #[.slice Ae d ce, .agg #[.slice S1 l1.length c1]] u (TermRes u (applyE out l1) (applyL out l1))) := Lib.hid (fun u S1 c1 l1 hu h1 h2 h3 h4 => by
        rw [← HDN.out]
        exact uapply_any Ae ce out S1 c1 l1 u (fun b => b < u.heap.size) (fun b h => h) h1 (HER.out.keep EBind.stays (Keep.below hu (fun b h => h)) (fun b h => Nat.lt_of_lt_of_le h hu.size)) h2 h3 HEC.out.1 HEC.out.2 HFEW.out h4 HSO.out.small)
      have HA1 := Lib.hid (HAPE.out ws S k l (Below.refl _ _) (HX.out.keep ETN.stays (Keep.below HB_w.out (fun b h => h)) (fun b h => Nat.lt_of_lt_of_le h HB_w.out.size)) HXC.out.1 HXC.out.2 HSMX.out)
      rw [HM.out] at HA1
      have HME := Lib.hid (most_end (u := bd) (l := l) HSO.out HAL.out)
      obtain ⟨ey, hey⟩ : ∃ z, applyE out l = z := ⟨_, rfl⟩
      obtain ⟨ez, hez⟩ : ∃ z, applyE bd l = z := ⟨_, rfl⟩
      obtain ⟨LY, hLY⟩ : ∃ z, applyL out l = z := ⟨_, rfl⟩
      obtain ⟨LZ, hLZ⟩ : ∃ z, applyL bd l = z := ⟨_, rfl⟩
      rw [hey, hez, hLY, hLZ] at HME
      rw [hey, hLY] at HA1
      have HEZ := Lib.hid (And.intro hez hLZ)
      clear hey hez hLY hLZ
      have HBXc0 := HBX.out.cell 0
      have HBXlt := HBX.out.lt
      simp at HBXc0
      go_wp2_with fail
      (try rw [HUE.out])
      refine (HA1.out).mono ?_
      rintro _ w2 ⟨vy, rfl, hb, hr⟩
      obtain ⟨Ay, cy, rfl, y1, y2, y3⟩ := hr
      have HRy := Lib.hid y3
      have HCy := Lib.hid (And.intro y1 y2)
      try clear HUE
      replace HB_w : Hid (Below w.heap.size w w2) := Lib.hid (HB_w.out.trans (hb.mono HB_w.out.size))
      replace HB_w5 : Hid (Below w5.heap.size w5 w2) := Lib.hid (HB_w5.out.trans (hb.mono HB_w5.out.size))
      have HB_ws : Hid (Below ws.heap.size ws w2) := Lib.hid hb
      replace HBX := Lib.hid (HBX.out.below hb HBX.out.lt)
      clear hb y1 y2 y3
      obtain ⟨ly, hly⟩ : ∃ z, LY.length = z := ⟨_, rfl⟩
      have HLYN := Lib.hid hly
      rw [hly]
      clear hly HBXc0 HBXlt
      obtain ⟨u3, hu⟩ : ∃ u : World, w2.alloc (.cells #[.slice Ay ly cy] 24) = u := ⟨_, rfl⟩
      have HBU : Below w2.heap.size w2 u3 := by rw [← hu]; exact (Below.refl _ _).alloc (Nat.le_refl _) _
      have HBY : Hid (Blk u3 w2.heap.size 24 #[.slice Ay ly cy]) := Lib.hid (by rw [← hu]; exact Blk.new _ _ _)
      have HUE := Lib.hid hu
      clear hu
      replace HB_w : Hid (Below w.heap.size w u3) := Lib.hid (HB_w.out.trans (HBU.mono HB_w.out.size))
      replace HB_w5 : Hid (Below w5.heap.size w5 u3) := Lib.hid (HB_w5.out.trans (HBU.mono HB_w5.out.size))
      replace HB_ws : Hid (Below ws.heap.size ws u3) := Lib.hid (HB_ws.out.trans (HBU.mono HB_ws.out.size))
      have HB_w2 : Hid (Below w2.heap.size w2 u3) := Lib.hid HBU
      replace HBX := Lib.hid (HBX.out.below HBU HBX.out.lt)
      clear HBU
      go_upto_region 17 with fail
      (try rw [HUE.out])
      (try clear HUE)
      have HBXc0 := HBX.out.cell 0
      have HBXlt := HBX.out.lt
      simp at HBXc0
      have HA2 := Lib.hid (HAPP.out u3 S k l HB_w5.out (HX.out.keep ETN.stays (Keep.below HB_w.out (fun b h => h)) (fun b h => Nat.lt_of_lt_of_le h HB_w.out.size)) HXC.out.1 HXC.out.2 HSMX.out)
      rw [HM.out, HEZ.out.1, HEZ.out.2] at HA2
      go_wp2_with fail
      (try rw [HUE.out])
      refine (HA2.out).mono ?_
      rintro _ w4 ⟨vz, rfl, hb, hr⟩
      obtain ⟨Az, cz, rfl, y1, y2, y3⟩ := hr
      have HRz := Lib.hid y3
      have HCz := Lib.hid (And.intro y1 y2)
      try clear HUE
      replace HB_w : Hid (Below w.heap.size w w4) := Lib.hid (HB_w.out.trans (hb.mono HB_w.out.size))
      replace HB_w5 : Hid (Below w5.heap.size w5 w4) := Lib.hid (HB_w5.out.trans (hb.mono HB_w5.out.size))
      replace HB_ws : Hid (Below ws.heap.size ws w4) := Lib.hid (HB_ws.out.trans (hb.mono HB_ws.out.size))
      replace HB_w2 : Hid (Below w2.heap.size w2 w4) := Lib.hid (HB_w2.out.trans (hb.mono HB_w2.out.size))
      replace HBX := Lib.hid (HBX.out.below hb HBX.out.lt)
      replace HBY := Lib.hid (HBY.out.below hb HBY.out.lt)
      clear hb y1 y2 y3
      obtain ⟨lz, hlz⟩ : ∃ z, LZ.length = z := ⟨_, rfl⟩
      have HLZN := Lib.hid hlz
      rw [hlz]
      clear hlz HBXc0 HBXlt
      obtain ⟨u5, hu⟩ : ∃ u : World, w4.alloc (.cells #[.slice Az lz cz] 24) = u := ⟨_, rfl⟩
      have HBU : Below w4.heap.size w4 u5 := by rw [← hu]; exact (Below.refl _ _).alloc (Nat.le_refl _) _
      have HBZ : Hid (Blk u5 w4.heap.size 24 #[.slice Az lz cz]) := Lib.hid (by rw [← hu]; exact Blk.new _ _ _)
      have HUE := Lib.hid hu
      clear hu
      replace HB_w : Hid (Below w.heap.size w u5) := Lib.hid (HB_w.out.trans (HBU.mono HB_w.out.size))
      replace HB_w5 : Hid (Below w5.heap.size w5 u5) := Lib.hid (HB_w5.out.trans (HBU.mono HB_w5.out.size))
      replace HB_ws : Hid (Below ws.heap.size ws u5) := Lib.hid (HB_ws.out.trans (HBU.mono HB_ws.out.size))
      replace HB_w2 : Hid (Below w2.heap.size w2 u5) := Lib.hid (HB_w2.out.trans (HBU.mono HB_w2.out.size))
      have HB_w4 : Hid (Below w4.heap.size w4 u5) := Lib.hid HBU
      replace HBX := Lib.hid (HBX.out.below HBU HBX.out.lt)
      replace HBY := Lib.hid (HBY.out.below HBU HBY.out.lt)
      clear HBU
      go_upto_region 18 with fail
      (try rw [HUE.out])
      (try clear HUE)
      clear HA1 HA2
      by_cases g1 : ez = 0
      rotate_left 1
      · have g1' : (ez != 0) = true := by simp; exact g1
        clear g1
        go_wp2_with fail
        go_ret
        exact ⟨rfl, HB_w.out⟩
      subst g1
      obtain ⟨T, Y, t1, t2, t3, t4, t5, t6, t7⟩ := HME.out rfl
      subst t4
      have HOT := Lib.hid (And.intro t1 t2)
      have HFL := Lib.hid (And.intro t3 t5)
      have HT7 := Lib.hid (And.intro t6 t7)
      clear t1 t2 t3 t5 t6 t7 HME
      have HA3 := Lib.hid (HAPP.out u5 Ay cy LY HB_w5.out (HRy.out.keep ETN.stays (Keep.below HB_w2.out (fun b h => h)) (fun b h => Nat.lt_of_lt_of_le h HB_w2.out.size)) HCy.out.1 HCy.out.2 (by rw [HFL.out.2]; exact okT_names2 HOT.out.2))
      have HE3 : Hid (applyE bd LY = 0 ∧ applyL bd LY = LZ) := Lib.hid (by rw [HFL.out.2, HFL.out.1]; exact HT7.out)
      rw [HLYN.out, HE3.out.1, HE3.out.2] at HA3
      have HBYc0 := HBY.out.cell 0
      have HBYlt := HBY.out.lt
      simp at HBYc0
      go_wp2_with fail
      (try rw [HUE.out])
      refine (HA3.out).mono ?_
      rintro _ w6 ⟨vq, rfl, hb, hr⟩
      obtain ⟨Aq, cq, rfl, y1, y2, y3⟩ := hr
      have HRq := Lib.hid y3
      have HCq := Lib.hid (And.intro y1 y2)
      try clear HUE
      replace HB_w : Hid (Below w.heap.size w w6) := Lib.hid (HB_w.out.trans (hb.mono HB_w.out.size))
      replace HB_w5 : Hid (Below w5.heap.size w5 w6) := Lib.hid (HB_w5.out.trans (hb.mono HB_w5.out.size))
      replace HB_ws : Hid (Below ws.heap.size ws w6) := Lib.hid (HB_ws.out.trans (hb.mono HB_ws.out.size))
      replace HB_w2 : Hid (Below w2.heap.size w2 w6) := Lib.hid (HB_w2.out.trans (hb.mono HB_w2.out.size))
      replace HB_w4 : Hid (Below w4.heap.size w4 w6) := Lib.hid (HB_w4.out.trans (hb.mono HB_w4.out.size))
      replace HBX := Lib.hid (HBX.out.below hb HBX.out.lt)
      replace HBY := Lib.hid (HBY.out.below hb HBY.out.lt)
      replace HBZ := Lib.hid (HBZ.out.below hb HBZ.out.lt)
      clear hb y1 y2 y3
      rw [HLZN.out]
      clear HBYc0 HBYlt
      obtain ⟨u7, hu⟩ : ∃ u : World, w6.alloc (.cells #[.slice Aq lz cq] 24) = u := ⟨_, rfl⟩
      have HBU : Below w6.heap.size w6 u7 := by rw [← hu]; exact (Below.refl _ _).alloc (Nat.le_refl _) _
      have HBQ : Hid (Blk u7 w6.heap.size 24 #[.slice Aq lz cq]) := Lib.hid (by rw [← hu]; exact Blk.new _ _ _)
      have HUE := Lib.hid hu
      clear hu
      replace HB_w : Hid (Below w.heap.size w u7) := Lib.hid (HB_w.out.trans (HBU.mono HB_w.out.size))
      replace HB_w5 : Hid (Below w5.heap.size w5 u7) := Lib.hid (HB_w5.out.trans (HBU.mono HB_w5.out.size))
      replace HB_ws : Hid (Below ws.heap.size ws u7) := Lib.hid (HB_ws.out.trans (HBU.mono HB_ws.out.size))
      replace HB_w2 : Hid (Below w2.heap.size w2 u7) := Lib.hid (HB_w2.out.trans (HBU.mono HB_w2.out.size))
      replace HB_w4 : Hid (Below w4.heap.size w4 u7) := Lib.hid (HB_w4.out.trans (HBU.mono HB_w4.out.size))
      have HB_w6 : Hid (Below w6.heap.size w6 u7) := Lib.hid HBU
      replace HBX := Lib.hid (HBX.out.below HBU HBX.out.lt)
      replace HBY := Lib.hid (HBY.out.below HBU HBY.out.lt)
      replace HBZ := Lib.hid (HBZ.out.below HBU HBZ.out.lt)
      clear HBU
      go_upto_region 21 with fail
      (try rw [HUE.out])
      (try clear HUE)
      have HAL2 := Lib.hid (ualike_any Aq cq Az cz T HOT.out.1 u7 (fun b => b < u7.heap.size) (fun b h => h)
        (by rw [← HFL.out.1]; exact (HRq.out.keep ETN.stays (Keep.below HB_w6.out (fun b h => h)) (fun b h => Nat.lt_of_lt_of_le h HB_w6.out.size))) (by rw [← HFL.out.1]; exact HCq.out.1) HCq.out.2 (by rw [← HFL.out.1]; exact (HRz.out.keep ETN.stays (Keep.below HB_w4.out (fun b h => h)) (fun b h => Nat.lt_of_lt_of_le h HB_w4.out.size))) (by rw [← HFL.out.1]; exact HCz.out.1) HCz.out.2 (HTB.out.below HB_w.out))
      rw [← HFL.out.1, HLZN.out] at HAL2
      have HBQc0 := HBQ.out.cell 0
      have HBQlt := HBQ.out.lt
      simp at HBQc0
      have HBZc0 := HBZ.out.cell 0
      have HBZlt := HBZ.out.lt
      simp at HBZc0
      go_wp2_with fail
      refine HAL2.out.mono ?_
      rintro _ w11 ⟨rfl, hb⟩
      replace HB_w : Hid (Below w.heap.size w w11) := Lib.hid (HB_w.out.trans (hb.mono HB_w.out.size))
      replace HB_w5 : Hid (Below w5.heap.size w5 w11) := Lib.hid (HB_w5.out.trans (hb.mono HB_w5.out.size))
      replace HB_ws : Hid (Below ws.heap.size ws w11) := Lib.hid (HB_ws.out.trans (hb.mono HB_ws.out.size))
      replace HB_w2 : Hid (Below w2.heap.size w2 w11) := Lib.hid (HB_w2.out.trans (hb.mono HB_w2.out.size))
      replace HB_w4 : Hid (Below w4.heap.size w4 w11) := Lib.hid (HB_w4.out.trans (hb.mono HB_w4.out.size))
      replace HB_w6 : Hid (Below w6.heap.size w6 w11) := Lib.hid (HB_w6.out.trans (hb.mono HB_w6.out.size))
      replace HBX := Lib.hid (HBX.out.below hb HBX.out.lt)
      replace HBY := Lib.hid (HBY.out.below hb HBY.out.lt)
      replace HBZ := Lib.hid (HBZ.out.below hb HBZ.out.lt)
      replace HBQ := Lib.hid (HBQ.out.below hb HBQ.out.lt)
      clear hb HAL2 HBQc0 HBQlt HBZc0 HBZlt
      go_wp2
      go_ret
      exact ⟨rfl, HB_w.out⟩
end Go.Proofs.YtgcbnndbeoekgaaDoor
end
