import Derived.Test.YtgcbnndbeoekgaaDoorAwakeP
import Derived.Test.YtgcbnndbeoekgaaDoorFewP
import Derived.Test.YtgcbnndbeoekgaaDoorNFP
import Derived.Test.YtgcbnndbeoekgaaDoorAwakeM
import Derived.Test.YtgcbnndbeoekgaaDoorUSolve
set_option linter.unusedSimpArgs false
set_option linter.unusedVariables false
section
/- what a bound that is found does to terms; what is found where there is another: in plain Lean -/
namespace Go.Proofs.YtgcbnndbeoekgaaDoor
open Go Go.RowKit

theorem size_sub {σ : Nat → Option Fo} (h : One1 σ) : ∀ K : Fo, K.size ≤ (K.sub σ).size
  | .nil => Nat.le_refl _
  | .hole n r => by
    show 1 + r.size ≤ ((stood σ n).app2 (r.sub σ)).size
    rw [Fo.size_app2]
    have := Fo.one_size (h.stood n)
    have := size_sub h r
    omega
  | .app _ k r => by
    show 1 + k.size + r.size ≤ 1 + (k.sub σ).size + (r.sub σ).size
    have := size_sub h k
    have := size_sub h r
    omega
section
variable {bs us : List (Nat × Fo)} {E : List (Fo × Fo)}
theorem std_size (h : ∀ p ∈ us, p.2.size ≤ 256) (n : Nat) : (std us n).size ≤ 256 := by
  unfold std stood
  cases e : lookB us n with
  | none => show 1 ≤ 256; omega
  | some T => exact h _ (lookB_mem e)
/-- where there is a bound, there is one found -/
theorem find_ok {o : Outc} (h : Comes E o) (hu : NF us) (h256 : ∀ p ∈ us, p.2.size ≤ 256) (hs : Sat (valB us) E) : ∃ bs, o = .ok bs := by
  cases o with
  | clash => exact absurd hs (h _)
  | occurs => exact absurd hs (h.2 _ (fin_valB us))
  | ok bs => exact ⟨bs, rfl⟩
  | long =>
    exfalso
    obtain ⟨bs, hb, hi, p, hp, hl⟩ := h
    have h1 : valB us p.1 = ev (valB us) p.2 := (hi _).1 hs p hp
    rw [ev_valB hu] at h1
    have h2 := ev_leaf_inj (std_one hu p.1) (sub_one1 hu.onesB.2 (hb.one p hp)) h1
    have h3 := std_size h256 p.1
    have h4 := size_sub hu.onesB.2 p.2
    rw [← h2] at h4
    omega
end
section
variable {b u : List ABind} {l l1 l2 : List TN}
theorem may_nf (h : MayP b) : NF (bsOf b) := nf_of_may h (bsOf_ok h) (bsOf_ok h).eq
theorem may_256 (h : MayP b) : ∀ p ∈ bsOf b, p.2.size ≤ 256 := fun p hp => ((bsOf_ok h).ok p hp).2.2.2
theorem sub_is_one (h : MayP b) (h2 : rightI l = 0) : (subOf b l).one := sub_one1 (may_nf h).onesB.2 (treeOf_ok h2).1
theorem sub_is_wf (h : MayP b) (h2 : rightI l = 0) : (subOf b l).wf := Fo.sub_wf (bsOf_ok h).ones (treeOf_ok h2).2.1
theorem sub_okT (h : MayP b) (h2 : rightI l = 0) (h3 : ¬ 256 < (subOf b l).size) : OkT (subOf b l) := ⟨sub_is_one h h2, sub_is_wf h h2, by omega⟩
theorem apply_fact (b : List ABind) (l : List TN) : (applyE b l = 0 ∧ MayP b ∧ rightI l = 0 ∧ ¬ 256 < (subOf b l).size ∧ applyL b l = (subOf b l).flat 0) ∨ (applyE b l = 3 ∧ rightI l = 0 ∧ applyL b l = []) ∨ (applyE b l ≠ 0 ∧ (MayP b → applyE b l = rightI l) ∧ applyL b l = []) := by
  by_cases h : MayP b
  · by_cases h2 : rightI l = 0
    · by_cases h3 : 256 < (subOf b l).size
      · obtain ⟨a, c⟩ := apply_long h h2 h3
        exact .inr (.inl ⟨a, h2, c⟩)
      · obtain ⟨a, c⟩ := apply_ok h h2 h3
        exact .inl ⟨a, h, h2, h3, c⟩
    · obtain ⟨a, c⟩ := apply_bad h h2
      exact .inr (.inr ⟨by rw [a]; exact h2, fun _ => a, c⟩)
  · obtain ⟨a, c⟩ := apply_not h
    exact .inr (.inr ⟨by rw [a]; decide, fun h' => absurd h' h, c⟩)
/-- a bound makes both terms of a pair alike: it solves the pair -/
theorem solves_pair (h : MayP u) (h2 : rightI l1 = 0) (h3 : rightI l2 = 0) (e : subOf u l1 = subOf u l2) : ev (valB (bsOf u)) (treeOf l1) = ev (valB (bsOf u)) (treeOf l2) := by
  rw [ev_valB (may_nf h), ev_valB (may_nf h)]
  exact congrArg (ev leaf) e
theorem pair_solved (h : MayP u) (h2 : rightI l1 = 0) (h3 : rightI l2 = 0) (e : ev (valB (bsOf u)) (treeOf l1) = ev (valB (bsOf u)) (treeOf l2)) : subOf u l1 = subOf u l2 := by
  rw [ev_valB (may_nf h), ev_valB (may_nf h)] at e
  exact ev_leaf_inj (sub_is_one h h2) (sub_is_one h h3) e
end
section
variable {ps ps' : List (List TN × List TN)} {k : Nat} {out u : List ABind}
theorem SolvedTo.may (h : SolvedTo ps k out) : MayP out := by
  obtain ⟨bs, h1, h2⟩ := h.out
  rw [h2]; exact ok_may h.wf h1
theorem SolvedTo.bs (h : SolvedTo ps k out) : Comes (eqsP ps k) (.ok (bsOf out)) := by
  obtain ⟨bs, h1, h2⟩ := h.out
  rw [h2, bsOf_map h.wf h1]; exact h1
theorem mem_eqsP {i : Nat} (hi : i < ps.length) (hk : i < k) : (treeOf ps[i].1, treeOf ps[i].2) ∈ eqsP ps k :=
  List.mem_map.2 ⟨ps[i], List.mem_take_iff_getElem.2 ⟨i, by omega, rfl⟩, rfl⟩
/-- what is found makes both terms of each pair alike -/
theorem SolvedTo.alike (h : SolvedTo ps k out) {i : Nat} (hi : i < ps.length) (hk : i < k) : subOf out ps[i].1 = subOf out ps[i].2 := by
  have h1 := h.bs
  have h2 : Sat (valB (bsOf out)) (eqsP ps k) := (h1.2.1 _).2 (valB_sat h1.1)
  obtain ⟨r1, r2⟩ := h.right i hi hk
  exact pair_solved h.may r1 r2 (h2 _ (mem_eqsP hi hk))
/-- all pairs are of right terms, and have a bound -/
def Fine (ps : List (List TN × List TN)) : Prop := (∀ p ∈ ps, rightI p.1 = 0 ∧ rightI p.2 = 0) ∧ ∃ us, NF us ∧ (∀ p ∈ us, p.2.size ≤ 256) ∧ Sat (valB us) (eqsP ps ps.length)
theorem StepErr.ne {err : Int} (h : StepErr ps k err) : err ≠ 0 := by
  obtain ⟨_, ⟨a, b⟩ | ⟨_, a, b⟩ | ⟨_, _, o, _, a, b⟩⟩ := h
  · rw [b]; exact a
  · rw [b]; exact a
  · cases o with
    | ok bs => exact absurd rfl (a bs)
    | clash => rw [b.1]; decide
    | occurs => rw [b.1]; decide
    | long => rw [b.1]; decide
theorem SolvedTo.fine (h : SolvedTo ps ps.length out) : Fine ps :=
  ⟨fun p hp => by
    obtain ⟨i, hi, rfl⟩ := List.getElem_of_mem hp
    exact h.right i hi hi, bsOf out, h.bs.1, h.bs.2.2, (h.bs.2.1 _).2 (valB_sat h.bs.1)⟩
theorem SolveSays.ok_of {err at_ : Int} (h : SolveSays ps err at_ out) (hl : ps.length ≤ 4096) (hf : Fine ps) : SolvedTo ps ps.length out ∧ err = 0 ∧ at_ = 0 := by
  rcases h with ⟨a, _⟩ | ⟨_, a, b, c⟩ | ⟨_, k, o, a, ⟨hk, c⟩, _⟩
  · omega
  · exact ⟨a, b, c⟩
  · exfalso
    obtain ⟨f1, us, f2, f3, f4⟩ := hf
    obtain ⟨r1, r2⟩ := f1 _ (List.getElem_mem hk)
    rcases c with ⟨c, _⟩ | ⟨_, c, _⟩ | ⟨_, _, o', c, d, _⟩
    · exact c r1
    · exact c r2
    · obtain ⟨bs, e⟩ := find_ok c f2 f3 (fun p hp => f4 p (by
        obtain ⟨q, hq, rfl⟩ := List.mem_map.1 hp
        refine List.mem_map.2 ⟨q, ?_, rfl⟩
        rw [List.take_length]
        exact List.mem_of_mem_take hq))
      exact d bs e
/-- what Solve says: it is found, or it is not, and there is none -/
theorem SolveSays.cases {err at_ : Int} (h : SolveSays ps err at_ out) (hl : ps.length ≤ 4096) : (err = 0 ∧ at_ = 0 ∧ SolvedTo ps ps.length out) ∨ (err ≠ 0 ∧ out = [] ∧ ¬ Fine ps ∧ 0 ≤ at_ ∧ at_ < (ps.length : Nat)) := by
  rcases h with ⟨a, _⟩ | ⟨_, a, b, c⟩ | ⟨h4, k, o, a, b, c, d⟩
  · omega
  · exact .inl ⟨b, c, a⟩
  · refine .inr ⟨b.ne, d, fun hf => b.ne ?_, by omega, by have := b.choose; omega⟩
    exact (SolveSays.ok_of (.inr (.inr ⟨h4, k, o, a, b, c, d⟩)) hl hf).2.1
/-- another bound that makes all pairs alike: there is one found -/
theorem fine_of (hu : MayP u) (hr : ∀ p ∈ ps, rightI p.1 = 0 ∧ rightI p.2 = 0) (hp : ∀ p ∈ ps, subOf u p.1 = subOf u p.2) : Fine ps :=
  ⟨hr, bsOf u, may_nf hu, may_256 hu, fun p hpm => by
    obtain ⟨q, hq, rfl⟩ := List.mem_map.1 hpm
    have hq := List.mem_of_mem_take hq
    exact solves_pair hu (hr q hq).1 (hr q hq).2 (hp q hq)⟩
/-- a bound makes the pairs ahead alike -/
def Alk (u : List ABind) (ps : List (List TN × List TN)) (i : Nat) : Prop := ∀ j (h : j < ps.length), j < i → MayP u ∧ rightI ps[j].1 = 0 ∧ rightI ps[j].2 = 0 ∧ subOf u ps[j].1 = subOf u ps[j].2
theorem Alk.start (u : List ABind) (ps : List (List TN × List TN)) : Alk u ps 0 := fun _ _ h => absurd h (Nat.not_lt_zero _)
theorem apply_tree {l : List TN} (h : applyE u l = 0) : ∃ T, OkT T ∧ applyL u l = T.flat 0 ∧ MayP u ∧ rightI l = 0 ∧ subOf u l = T := by
  rcases apply_fact u l with ⟨_, a, b, c, d⟩ | ⟨a, _⟩ | ⟨a, _⟩
  · exact ⟨_, sub_okT a b c, d, a, b, rfl⟩
  · rw [a] at h; exact absurd h (by decide)
  · exact absurd h a
theorem Alk.next {i : Nat} (h : Alk u ps i) (hi : i < ps.length) (h1 : applyE u ps[i].1 = 0) (h2 : applyE u ps[i].2 = 0) : ∃ T1 T2, OkT T1 ∧ OkT T2 ∧ applyL u ps[i].1 = T1.flat 0 ∧ applyL u ps[i].2 = T2.flat 0 ∧ (T1 = T2 → Alk u ps (i + 1)) := by
  obtain ⟨T1, a1, a2, a3, a4, a5⟩ := apply_tree h1
  obtain ⟨T2, b1, b2, _, b4, b5⟩ := apply_tree h2
  refine ⟨T1, T2, a1, b1, a2, b2, fun e j hj hji => ?_⟩
  by_cases hlt : j < i
  · exact h j hj hlt
  · have : j = i := by omega
    subst this
    exact ⟨a3, a4, b4, by rw [a5, b5, e]⟩
theorem Alk.fine (h : Alk u ps ps.length) : Fine ps := by
  cases ps with
  | nil => exact ⟨(fun p h => by cases h), [], ⟨List.Pairwise.nil, (fun p hp => by cases hp), (fun p hp => by cases hp), (fun p hp => by cases hp), (fun p hp => by cases hp)⟩, (fun p hp => by cases hp), (fun p hp => by cases hp)⟩
  | cons p r =>
    refine fine_of (h 0 (by simp) (by simp)).1 (fun q hq => ?_) (fun q hq => ?_)
    · obtain ⟨i, hi, rfl⟩ := List.getElem_of_mem hq
      have := h i hi hi
      exact ⟨this.2.1, this.2.2.1⟩
    · obtain ⟨i, hi, rfl⟩ := List.getElem_of_mem hq
      exact (h i hi hi).2.2.2
end
end Go.Proofs.YtgcbnndbeoekgaaDoor
end
section
/- pairs turned about: in plain Lean, and in memory -/
namespace Go.Proofs.YtgcbnndbeoekgaaDoor
open Go Go.RowKit

abbrev PT := List TN × List TN
def swp (p : PT) : PT := (p.2, p.1)
def Has (qs : List PT) (p : PT) : Prop := p ∈ qs ∨ swp p ∈ qs
def tot (qs : List PT) : Nat := (qs.map fun p => p.1.length + p.2.length).sum
theorem tot_set : ∀ (qs : List PT) (k : Nat) (hk : k < qs.length) (y : PT), tot (qs.set k y) + (qs[k].1.length + qs[k].2.length) = tot qs + (y.1.length + y.2.length)
  | [], k, hk, _ => absurd hk (Nat.not_lt_zero _)
  | p :: r, 0, _, y => by
    show tot (y :: r) + (p.1.length + p.2.length) = tot (p :: r) + _
    unfold tot
    rw [List.map_cons, List.map_cons, List.sum_cons, List.sum_cons]; omega
  | p :: r, k + 1, hk, y => by
    have hk' : k < r.length := Nat.lt_of_succ_lt_succ hk
    have ih := tot_set r k hk' y
    show tot (p :: r.set k y) + (r[k].1.length + r[k].2.length) = tot (p :: r) + _
    unfold tot at ih ⊢
    rw [List.map_cons, List.map_cons, List.sum_cons, List.sum_cons]; omega
theorem sum_lens : ∀ qs : List PT, (qs.flatMap fun p => [p.1.length, p.2.length]).sum = tot qs
  | [] => rfl
  | p :: r => by
    rw [List.flatMap_cons, List.sum_append, sum_lens r]
    unfold tot
    rw [List.map_cons, List.sum_cons]; simp
/-- the same pairs, in some order, some turned about -/
structure Like (ps qs : List PT) : Prop where
  len : qs.length = ps.length
  has : ∀ p, Has ps p ↔ Has qs p
  sum : tot qs = tot ps
section
variable {ps qs : List PT}
theorem Like.refl (ps : List PT) : Like ps ps := ⟨rfl, fun _ => Iff.rfl, rfl⟩
theorem Like.symm (h : Like ps qs) : Like qs ps := ⟨h.len.symm, fun p => (h.has p).symm, h.sum.symm⟩
theorem Like.flip (h : Like ps qs) {k : Nat} (hk : k < qs.length) : Like ps (qs.set k (swp qs[k])) := by
  refine ⟨by rw [List.length_set]; exact h.len, fun p => (h.has p).trans ⟨?_, ?_⟩, ?_⟩
  · have key : ∀ p, p ∈ qs → Has (qs.set k (swp qs[k])) p := fun p hp => by
      obtain ⟨j, hj, rfl⟩ := List.getElem_of_mem hp
      by_cases e : j = k
      · subst e
        exact .inr (List.mem_iff_getElem.2 ⟨j, by simpa using hj, by simp⟩)
      · exact .inl (List.mem_iff_getElem.2 ⟨j, by simpa using hj, by rw [List.getElem_set_ne (Ne.symm e)]⟩)
    rintro (hp | hp)
    · exact key p hp
    · exact (key _ hp).elim .inr .inl
  · have key : ∀ p, p ∈ qs.set k (swp qs[k]) → Has qs p := fun p hp => by
      rcases List.mem_or_eq_of_mem_set hp with hp | rfl
      · exact .inl hp
      · exact .inr (List.getElem_mem hk)
    rintro (hp | hp)
    · exact key p hp
    · exact (key _ hp).elim .inr .inl
  · have := tot_set qs k hk (swp qs[k])
    have e1 : (swp qs[k]).1.length = qs[k].2.length := rfl
    have e2 : (swp qs[k]).2.length = qs[k].1.length := rfl
    rw [e1, e2] at this
    have := h.sum
    omega
theorem mem_swap {α : Type} {l : List α} {k n : Nat} (hk : k < l.length) (hn : n < l.length) (x : α) : x ∈ (l.set k l[n]).set n l[k] ↔ x ∈ l := by
  constructor
  · intro hx
    rcases List.mem_or_eq_of_mem_set hx with hx | rfl
    · rcases List.mem_or_eq_of_mem_set hx with hx | rfl
      · exact hx
      · exact List.getElem_mem hn
    · exact List.getElem_mem hk
  · intro hx
    obtain ⟨j, hj, rfl⟩ := List.getElem_of_mem hx
    by_cases e : j = k
    · subst e
      exact List.mem_iff_getElem.2 ⟨n, by simpa using hn, by simp⟩
    · by_cases e2 : j = n
      · subst e2
        refine List.mem_iff_getElem.2 ⟨k, by simpa using hk, ?_⟩
        rw [List.getElem_set_ne e, List.getElem_set_self]
      · refine List.mem_iff_getElem.2 ⟨j, by simpa using hj, ?_⟩
        rw [List.getElem_set_ne (Ne.symm e2), List.getElem_set_ne (Ne.symm e)]
theorem Like.swap (h : Like ps qs) {k n : Nat} (hk : k < qs.length) (hn : n < qs.length) : Like ps ((qs.set k qs[n]).set n qs[k]) := by
  refine ⟨by rw [List.length_set, List.length_set]; exact h.len, fun p => (h.has p).trans ?_, ?_⟩
  · exact or_congr (mem_swap hk hn _).symm (mem_swap hk hn _).symm
  · have h1 := tot_set qs k hk qs[n]
    have hn' : n < (qs.set k qs[n]).length := by rw [List.length_set]; exact hn
    have h2 := tot_set (qs.set k qs[n]) n hn' qs[k]
    have e : (qs.set k qs[n])[n] = qs[n] := by
      by_cases e : k = n
      · subst e; simp
      · rw [List.getElem_set_ne e]
    rw [e] at h2
    have := h.sum
    omega
theorem Like.sat (h : Like ps qs) {θ : Nat → IT} (hs : Sat θ (eqsP ps ps.length)) : Sat θ (eqsP qs qs.length) := fun p hp => by
  obtain ⟨q, hq, rfl⟩ := List.mem_map.1 hp
  rw [List.take_length] at hq
  have key : ∀ p ∈ ps, ev θ (treeOf p.1) = ev θ (treeOf p.2) := fun p hp => hs _ (List.mem_map.2 ⟨p, by rw [List.take_length]; exact hp, rfl⟩)
  rcases (h.has q).2 (.inl hq) with hq | hq
  · exact key q hq
  · exact (key _ hq).symm
theorem Like.fine (h : Like ps qs) (hf : Fine ps) : Fine qs := by
  obtain ⟨h1, us, h2, h3, h4⟩ := hf
  refine ⟨fun q hq => ?_, us, h2, h3, h.sat h4⟩
  rcases (h.has q).2 (.inl hq) with hq | hq
  · exact h1 q hq
  · exact ⟨(h1 _ hq).2, (h1 _ hq).1⟩
theorem Like.tried (h : Like ps qs) (h1 : ps.length ≤ 100) (ht : Tried ps) : Tried qs := fun _ => by
  have e := h.len
  refine ⟨?_, .inl (by omega)⟩
  have h2 := (ht (by omega)).1
  unfold pairLens at h2 ⊢
  rw [List.take_of_length_le (by omega), sum_lens] at h2 ⊢
  rw [h.sum]; exact h2
/-- what is solved is solved alike -/
theorem Like.says (h : Like ps qs) (h4 : ps.length ≤ 4096) {err at_ err' at' : Int} {out out' : List ABind} (hs : SolveSays ps err at_ out) (hs' : SolveSays qs err' at' out') : ((err = 0 ∧ err' = 0) ∨ (err ≠ 0 ∧ err' ≠ 0)) ∧ out = out' ∧ ∀ x ∈ out, ∃ T, OkT T ∧ x.term = T.flat 0 := by
  have h4' : qs.length ≤ 4096 := by rw [h.len]; exact h4
  rcases hs.cases h4 with ⟨a, _, b⟩ | ⟨a, b, c, _⟩ <;> rcases hs'.cases h4' with ⟨a', _, b'⟩ | ⟨a', b', c', _⟩
  · obtain ⟨bs, c1, c2⟩ := b.out
    obtain ⟨bs', d1, d2⟩ := b'.out
    have := Comes.same (fun θ => ⟨fun hs => h.sat hs, fun hs => h.symm.sat hs⟩) c1 d1
    injection this with this
    refine ⟨.inl ⟨a, a'⟩, by rw [c2, d2, this], fun x hx => ?_⟩
    rw [c2] at hx
    obtain ⟨p, hp, rfl⟩ := List.mem_map.1 hx
    exact ⟨p.2, ⟨c1.1.one p hp, (ok_wf b.wf c1 p hp).2, c1.2.2 p hp⟩, rfl⟩
  · exact absurd (h.fine b.fine) c'
  · exact absurd (h.symm.fine b'.fine) c
  · exact ⟨.inr ⟨a, a'⟩, by rw [b, b'], fun x hx => by rw [b] at hx; cases hx⟩
end

/-! ### In memory -/
abbrev PR := (Value × Value) × PT
def vals (M : List PR) : List Value := M.flatMap fun x => [x.1.1, x.1.2]
theorem vals_len : ∀ M : List PR, (vals M).length = M.length * 2
  | [] => rfl
  | x :: r => by
    have := vals_len r
    unfold vals at this ⊢
    rw [List.flatMap_cons, List.length_append, this]; simp; omega
theorem vals_at (M : List PR) {i : Nat} (hi : i < M.length) : (vals M)[i * 2]? = some M[i].1.1 ∧ (vals M)[i * 2 + 1]? = some M[i].1.2 :=
  ⟨flat_pairs M i 0 hi (by omega), flat_pairs M i 1 hi (by omega)⟩
theorem vals_set : ∀ (M : List PR) (k : Nat) (_ : k < M.length) (y : PR), ((vals M).set (k * 2) y.1.1).set (k * 2 + 1) y.1.2 = vals (M.set k y)
  | [], k, hk, _ => absurd hk (Nat.not_lt_zero _)
  | x :: r, 0, _, y => rfl
  | x :: r, k + 1, hk, y => by
    have ih := vals_set r k (Nat.lt_of_succ_lt_succ hk) y
    have e : vals (x :: r) = x.1.1 :: x.1.2 :: vals r := rfl
    have e2 : vals ((x :: r).set (k + 1) y) = x.1.1 :: x.1.2 :: vals (r.set k y) := rfl
    rw [e, e2, ← ih, show (k + 1) * 2 = k * 2 + 1 + 1 by omega]
    rfl
section
variable {w w' : World} {base : Nat} {e : TypeId} {size : Nat} {v : Value} {n : Nat} {xs : List Value}
theorem town_set {g cap : Nat} (h : w.ownsRow base e size (.slice (some ⟨g, 0, none⟩) n cap) n xs) {i : Nat} (hi : i < n * size) (u : Value) : (w.setCell ⟨g, i, none⟩ u).ownsRow base e size (.slice (some ⟨g, 0, none⟩) n cap) n (xs.set i u) := by
  refine ⟨by rw [List.length_set]; exact h.1, ?_⟩
  rcases h.2 with ⟨e0, _⟩ | ⟨g', cap', cur, e0, hbg, hh, hnc, hcm, hsz, ht⟩
  · cases e0
  · injection e0 with e1 _ e2
    injection e1 with e1
    injection e1 with e1
    subst e1; subst e2
    refine .inr ⟨g, cap, cur.setIfInBounds i u, rfl, hbg, Blk.set_ (w := w) (g := g) (t := e) (cs := cur) hh i u, hnc, hcm, by simpa using hsz, ?_⟩
    rw [Array.toList_setIfInBounds, List.take_set, ht]
theorem town_frozen {g cap : Nat} (h : w.ownsRow base e size (.slice (some ⟨g, 0, none⟩) n cap) n xs) (i : Nat) : w.frozen? ⟨g, i, none⟩ = false := by
  rcases h.2 with ⟨e0, _⟩ | ⟨g', cap', cur, e0, hbg, hh, _⟩
  · cases e0
  · injection e0 with e1
    injection e1 with e1
    injection e1 with e1
    subst e1
    exact Blk.frozen (w := w) (g := g) (t := e) (cs := cur) hh i
theorem town_cell {g cap : Nat} (h : w.ownsRow base e size (.slice (some ⟨g, 0, none⟩) n cap) n xs) (i : Nat) (hi : i < n * size) : w.cell? ⟨g, i, none⟩ = xs[i]? := by
  rcases h.2 with ⟨e0, _⟩ | ⟨g', cap', cur, e0, hbg, hh, hnc, hcm, hsz, ht⟩
  · cases e0
  · injection e0 with e1
    injection e1 with e1
    injection e1 with e1
    subst e1
    rw [Blk.cell (w := w) (g := g) (t := e) (cs := cur) hh i, ← ht, List.getElem?_take_of_lt hi]
    simp
theorem town_keep (h : w.ownsRow base e size v n xs) (hb : ∀ b, v.ownBlock = some b → w'.heap[b]? = w.heap[b]?) : w'.ownsRow base e size v n xs := by
  refine ⟨h.1, ?_⟩
  rcases h.2 with h0 | ⟨g, cap, cur, e0, hbg, hh, h3⟩
  · exact .inl h0
  · exact .inr ⟨g, cap, cur, e0, hbg, (hb g (by rw [e0]; rfl)).trans hh, h3⟩
end
/-- the turned pairs in memory -/
structure TurnM (w wx : World) (ps : List PT) (v : Value) (M : List PR) : Prop where
  own : wx.ownsRow w.heap.size 45 2 v M.length (vals M)
  rows : ∀ x ∈ M, IsRow 3 ETN w (fun b => b < w.heap.size) x.1.1 x.2.1 ∧ IsRow 3 ETN w (fun b => b < w.heap.size) x.1.2 x.2.2
  like : Like ps (M.map (·.2))
section
variable {w wx wy : World} {ps : List PT} {v : Value} {M : List PR} {g cap : Nat}
theorem TurnM.below (h : TurnM w wx ps v M) (hb : Below wx.heap.size wx wy) : TurnM w wy ps v M :=
  ⟨town_keep h.own (fun b e => hb.block b (h.own.lt b e).2), h.rows, h.like⟩
theorem TurnM.drew (h : TurnM w wx ps v M) : TurnM w wx.drew ps v M := ⟨h.own, h.rows, h.like⟩
theorem TurnM.len (h : TurnM w wx ps v M) : M.length = ps.length := by have := h.like.len; rw [List.length_map] at this; exact this
theorem TurnM.flip (h : TurnM w wx ps (.slice (some ⟨g, 0, none⟩) M.length cap) M) {k : Nat} (hk : k < M.length) : TurnM w ((wx.setCell ⟨g, k * 2, none⟩ M[k].1.2).setCell ⟨g, k * 2 + 1, none⟩ M[k].1.1) ps (.slice (some ⟨g, 0, none⟩) M.length cap) (M.set k ((M[k].1.2, M[k].1.1), swp M[k].2)) := by
  refine ⟨?_, fun x hx => ?_, ?_⟩
  · have h1 := town_set (town_set h.own (i := k * 2) (by omega) M[k].1.2) (i := k * 2 + 1) (by omega) M[k].1.1
    rw [List.length_set]
    have h2 := vals_set M k hk ((M[k].1.2, M[k].1.1), swp M[k].2)
    rw [← h2]; exact h1
  · rcases List.mem_or_eq_of_mem_set hx with hx | rfl
    · exact h.rows x hx
    · have := h.rows _ (List.getElem_mem hk)
      exact ⟨this.2, this.1⟩
  · have hk' : k < (M.map (·.2)).length := by rw [List.length_map]; exact hk
    have h1 := h.like.flip hk'
    rw [List.map_set]
    rw [List.getElem_map] at h1
    exact h1
theorem TurnM.swap (h : TurnM w wx ps (.slice (some ⟨g, 0, none⟩) M.length cap) M) {k n : Nat} (hk : k < M.length) (hn : n < M.length) : TurnM w ((((wx.setCell ⟨g, k * 2, none⟩ M[n].1.1).setCell ⟨g, k * 2 + 1, none⟩ M[n].1.2).setCell ⟨g, n * 2, none⟩ M[k].1.1).setCell ⟨g, n * 2 + 1, none⟩ M[k].1.2) ps (.slice (some ⟨g, 0, none⟩) M.length cap) ((M.set k M[n]).set n M[k]) := by
  refine ⟨?_, fun x hx => h.rows x ((mem_swap hk hn x).1 hx), ?_⟩
  · have h1 := town_set (town_set (town_set (town_set h.own (i := k * 2) (by omega) M[n].1.1) (i := k * 2 + 1) (by omega) M[n].1.2) (i := n * 2) (by omega) M[k].1.1) (i := n * 2 + 1) (by omega) M[k].1.2
    rw [List.length_set, List.length_set]
    rw [vals_set M k hk M[n], vals_set (M.set k M[n]) n (by rw [List.length_set]; exact hn) M[k]] at h1
    exact h1
  · have hk' : k < (M.map (·.2)).length := by rw [List.length_map]; exact hk
    have hn' : n < (M.map (·.2)).length := by rw [List.length_map]; exact hn
    have h1 := h.like.swap hk' hn'
    rw [List.map_set, List.map_set]
    rw [List.getElem_map, List.getElem_map] at h1
    exact h1
theorem TurnM.cells (h : TurnM w wx ps (.slice (some ⟨g, 0, none⟩) M.length cap) M) {k : Nat} (hk : k < M.length) : wx.cell? ⟨g, k * 2, none⟩ = some M[k].1.1 ∧ wx.cell? ⟨g, k * 2 + 1, none⟩ = some M[k].1.2 ∧ wx.frozen? ⟨g, k * 2, none⟩ = false ∧ wx.frozen? ⟨g, k * 2 + 1, none⟩ = false := by
  obtain ⟨e1, e2⟩ := vals_at M hk
  exact ⟨(town_cell h.own _ (by omega)).trans e1, (town_cell h.own _ (by omega)).trans e2, town_frozen h.own _, town_frozen h.own _⟩
/-- they read as pairs -/
theorem TurnM.row {A : Option Addr} {c : Nat} (h : TurnM w wx ps (.slice A M.length c) M) (hb : Below w.heap.size w wx) : RowOf 2 EPair wx (fun b => b < wx.heap.size) A (M.map (·.2)) := by
  refine ⟨fun hne => ?_, fun i hi => ?_⟩
  · rcases h.own.2 with ⟨e0, h0⟩ | ⟨g, cap, cur, e0, hbg, hh, _⟩
    · exfalso; exact hne (by rw [List.length_eq_zero_iff.1 h0]; rfl)
    · injection e0 with e1 _ _
      exact ⟨g, 0, e1, (Blk.lt (w := wx) (g := g) (t := 45) (cs := cur) hh)⟩
  · have hi' : i < M.length := by simpa using hi
    obtain ⟨r1, r2⟩ := h.rows _ (List.getElem_mem hi')
    refine ⟨[M[i].1.1, M[i].1.2], rfl, ⟨_, _, rfl, ?_, ?_⟩, fun b off hA j hj => ?_⟩
    · rw [List.getElem_map]; exact r1.keep ETN.stays (Keep.below hb (fun b h => h)) (fun b h => Nat.lt_of_lt_of_le h hb.size)
    · rw [List.getElem_map]; exact r2.keep ETN.stays (Keep.below hb (fun b h => h)) (fun b h => Nat.lt_of_lt_of_le h hb.size)
    · rcases h.own.2 with ⟨e0, _⟩ | ⟨g, cap, cur, e0, hbg, hh, _⟩
      · injection e0 with e1 _ _; rw [hA] at e1; cases e1
      · injection e0 with e1 _ e2
        rw [hA] at e1
        injection e1 with e1
        injection e1 with e1 e3 _
        subst e1; subst e3; subst e2; subst hA
        rw [Nat.zero_add, town_cell h.own _ (by have : j < 2 := hj; omega)]
        exact flat_pairs M i j hi' hj
theorem TurnM.caps {A : Option Addr} {c n : Nat} (h : TurnM w wx ps (.slice A n c) M) : n = M.length ∧ M.length ≤ c ∧ c ≤ maxLen := by
  rcases h.own.2 with ⟨e0, h0⟩ | ⟨g, cap, cur, e0, hbg, hh, h1, h2, _⟩
  · injection e0 with _ e1 e2
    rw [e2, e1, h0]; exact ⟨rfl, Nat.le_refl _, Nat.zero_le _⟩
  · injection e0 with _ e1 e2
    rw [e2]; exact ⟨e1, h1, h2⟩
theorem TurnM.addr {A : Option Addr} {c : Nat} (h : TurnM w wx ps (.slice A M.length c) M) (hn : 0 < M.length) : ∃ g, A = some ⟨g, 0, none⟩ ∧ w.heap.size ≤ g ∧ g < wx.heap.size := by
  rcases h.own.2 with ⟨e0, h0⟩ | ⟨g, cap, cur, e0, hbg, hh, _⟩
  · omega
  · injection e0 with e1 _ _
    exact ⟨g, e1, hbg, (Blk.lt (w := wx) (g := g) (t := 45) (cs := cur) hh)⟩
end
/-- the values of the pairs, as they lie -/
theorem pairs_vals {w : World} {A : Option Addr} {ps : List PT} (h : RowOf 2 EPair w (fun b => b < w.heap.size) A ps) : ∃ M : List PR, M.map (·.2) = ps ∧ (∀ x ∈ M, IsRow 3 ETN w (fun b => b < w.heap.size) x.1.1 x.2.1 ∧ IsRow 3 ETN w (fun b => b < w.heap.size) x.1.2 x.2.2) ∧ ∀ b off, A = some ⟨b, off, none⟩ → ∀ j z, (vals M)[j]? = some z → w.cell? ⟨b, off + j, none⟩ = some z := by
  have key : ∀ n, n ≤ ps.length → ∃ M : List PR, M.map (·.2) = ps.take n ∧ (∀ x ∈ M, IsRow 3 ETN w (fun b => b < w.heap.size) x.1.1 x.2.1 ∧ IsRow 3 ETN w (fun b => b < w.heap.size) x.1.2 x.2.2) ∧ ∀ b off, A = some ⟨b, off, none⟩ → ∀ j z, (vals M)[j]? = some z → w.cell? ⟨b, off + j, none⟩ = some z := by
    intro n
    induction n with
    | zero => exact fun _ => ⟨[], rfl, fun x hx => (by cases hx), fun b off _ j z hz => (by cases hz)⟩
    | succ n ih =>
      intro hn
      obtain ⟨M, h1, h2, h3⟩ := ih (by omega)
      have hM : M.length = n := by have := congrArg List.length h1; rw [List.length_map, List.length_take] at this; omega
      obtain ⟨cs, hcl, ⟨v1, v2, hcs, hv1, hv2⟩, hc⟩ := h.2 n (by omega)
      refine ⟨M ++ [((v1, v2), ps[n])], ?_, fun x hx => ?_, fun b off hA j z hz => ?_⟩
      · rw [List.map_append, h1, List.take_succ_eq_append_getElem (by omega : n < ps.length)]; rfl
      · rcases List.mem_append.1 hx with hx | hx
        · exact h2 x hx
        · simp at hx; subst hx; exact ⟨hv1, hv2⟩
      · have e : vals (M ++ [((v1, v2), ps[n])]) = vals M ++ [v1, v2] := by unfold vals; rw [List.flatMap_append]; rfl
        rw [e] at hz
        by_cases hj : j < (vals M).length
        · rw [List.getElem?_append_left hj] at hz
          exact h3 b off hA j z hz
        · rw [List.getElem?_append_right (by omega), vals_len, hM] at hz
          rw [vals_len, hM] at hj
          have hlt : j - n * 2 < 2 := by
            rcases Nat.lt_or_ge (j - n * 2) 2 with h | h
            · exact h
            · rw [List.getElem?_eq_none (by simpa using h)] at hz; cases hz
          have := hc b off hA (j - n * 2) (by omega)
          rw [hcs] at this
          rw [show off + j = off + n * 2 + (j - n * 2) by omega, this]
          exact hz
  obtain ⟨M, h1, h2, h3⟩ := key ps.length (Nat.le_refl _)
  rw [List.take_length] at h1
  exact ⟨M, h1, h2, h3⟩
end Go.Proofs.YtgcbnndbeoekgaaDoor
end
