import Derived.Test.YtgcbnndbeoekgaaDoorAwakeP
import Derived.Test.YtgcbnndbeoekgaaDoorFewP
import Derived.Test.YtgcbnndbeoekgaaDoorNFP
import Derived.Test.YtgcbnndbeoekgaaDoorFoldsU
import Derived.Test.YtgcbnndbeoekgaaDoorApplyU
set_option linter.unusedSimpArgs false
set_option linter.unusedVariables false
section
/- what a bound that is found does to terms; what is found where there is another: in plain Lean -/
namespace Go.Proofs.YtgcbnndbeoekgaaDoor
open Go Go.RowKit

theorem has_app2 : ∀ {F G : Fo} {n : Nat}, (F.app2 G).has n → F.has n ∨ G.has n
  | .nil, _, _, h => .inr h
  | .hole _ r, _, _, h => by
    rcases h with h | h
    · exact .inl (.inl h)
    · exact (has_app2 (F := r) h).imp .inr id
  | .app _ k r, _, _, h => by
    rcases h with h | h
    · exact .inl (.inl h)
    · exact (has_app2 (F := r) h).imp .inr id
theorem has_sub {σ : Nat → Option Fo} : ∀ {K : Fo} {n : Nat}, (K.sub σ).has n → ∃ m, (stood σ m).has n
  | .nil, _, h => h.elim
  | .hole m r, n, h => by
    rcases has_app2 (F := stood σ m) (G := r.sub σ) h with h | h
    · exact ⟨m, h⟩
    · exact has_sub (K := r) h
  | .app _ k r, n, h => by
    rcases h with h | h
    · exact has_sub (K := k) h
    · exact has_sub (K := r) h
theorem size_sub {σ : Nat → Option Fo} (h : One1 σ) : ∀ K : Fo, K.size ≤ (K.sub σ).size
  | .nil => Nat.le_refl _
  | .hole n r => by
    show 1 + r.size ≤ ((stood σ n).app2 (r.sub σ)).size
    rw [Fo.size_app2]
    have := Fo.one_size (h.stood n)
    have := size_sub h r
    omega
  | .app _ k r => by
    show 1 + k.size + r.size ≤ 1 + (k.sub σ).size + (r.sub σ).size
    have := size_sub h k
    have := size_sub h r
    omega
section
variable {bs us : List (Nat × Fo)} {E : List (Fo × Fo)}
theorem sub_twice (h : NF bs) (K : Fo) : (K.sub (lookB bs)).sub (lookB bs) = K.sub (lookB bs) :=
  sub_id _ fun _ hn => by
    obtain ⟨m, hm⟩ := has_sub hn
    exact std_free h (n := m) hm
theorem std_size (h : ∀ p ∈ us, p.2.size ≤ 256) (n : Nat) : (std us n).size ≤ 256 := by
  unfold std stood
  cases e : lookB us n with
  | none => show 1 ≤ 256; omega
  | some T => exact h _ (lookB_mem e)
/-- where there is a bound, there is one found -/
theorem find_ok {o : Outc} (h : Comes E o) (hu : NF us) (h256 : ∀ p ∈ us, p.2.size ≤ 256) (hs : Sat (valB us) E) : ∃ bs, o = .ok bs := by
  cases o with
  | clash => exact absurd hs (h _)
  | occurs => exact absurd hs (h.2 _ (fin_valB us))
  | ok bs => exact ⟨bs, rfl⟩
  | long =>
    exfalso
    obtain ⟨bs, hb, hi, p, hp, hl⟩ := h
    have h1 : valB us p.1 = ev (valB us) p.2 := (hi _).1 hs p hp
    rw [ev_valB hu] at h1
    have h2 := ev_leaf_inj (std_one hu p.1) (sub_one1 hu.onesB.2 (hb.one p hp)) h1
    have h3 := std_size h256 p.1
    have h4 := size_sub hu.onesB.2 p.2
    rw [← h2] at h4
    omega
end
section
variable {b u : List ABind} {l l1 l2 : List TN}
theorem may_nf (h : MayP b) : NF (bsOf b) := nf_of_may h (bsOf_ok h) (bsOf_ok h).eq
theorem sub_is_one (h : MayP b) (h2 : rightI l = 0) : (subOf b l).one := sub_one1 (may_nf h).onesB.2 (treeOf_ok h2).1
theorem sub_is_wf (h : MayP b) (h2 : rightI l = 0) : (subOf b l).wf := Fo.sub_wf (bsOf_ok h).ones (treeOf_ok h2).2.1
theorem sub_okT (h : MayP b) (h2 : rightI l = 0) (h3 : ¬ 256 < (subOf b l).size) : OkT (subOf b l) := ⟨sub_is_one h h2, sub_is_wf h h2, by omega⟩
theorem sub_right (h : MayP b) (h2 : rightI l = 0) (h3 : ¬ 256 < (subOf b l).size) : rightI ((subOf b l).flat 0) = 0 := right_tree (sub_is_one h h2) (sub_is_wf h h2) (by omega)
theorem tree_sub (h : MayP b) (h2 : rightI l = 0) (h3 : ¬ 256 < (subOf b l).size) : treeOf ((subOf b l).flat 0) = subOf b l := treeOf_flat (sub_is_one h h2) (sub_is_wf h h2) (by omega)
/-- applied once more it changes nothing -/
theorem sub_again (h : MayP b) (h2 : rightI l = 0) (h3 : ¬ 256 < (subOf b l).size) : subOf b ((subOf b l).flat 0) = subOf b l := by
  have e : subOf b ((subOf b l).flat 0) = (treeOf ((subOf b l).flat 0)).sub (lookB (bsOf b)) := rfl
  rw [e, tree_sub h h2 h3]
  exact sub_twice (may_nf h) _
theorem apply_fact (b : List ABind) (l : List TN) : (applyE b l = 0 ∧ MayP b ∧ rightI l = 0 ∧ ¬ 256 < (subOf b l).size ∧ applyL b l = (subOf b l).flat 0) ∨ (applyE b l = 3 ∧ rightI l = 0 ∧ applyL b l = []) ∨ (applyE b l ≠ 0 ∧ (MayP b → applyE b l = rightI l) ∧ applyL b l = []) := by
  by_cases h : MayP b
  · by_cases h2 : rightI l = 0
    · by_cases h3 : 256 < (subOf b l).size
      · obtain ⟨a, c⟩ := apply_long h h2 h3
        exact .inr (.inl ⟨a, h2, c⟩)
      · obtain ⟨a, c⟩ := apply_ok h h2 h3
        exact .inl ⟨a, h, h2, h3, c⟩
    · obtain ⟨a, c⟩ := apply_bad h h2
      exact .inr (.inr ⟨by rw [a]; exact h2, fun _ => a, c⟩)
  · obtain ⟨a, c⟩ := apply_not h
    exact .inr (.inr ⟨by rw [a]; decide, fun h' => absurd h' h, c⟩)
theorem pair_solved (h : MayP u) (h2 : rightI l1 = 0) (h3 : rightI l2 = 0) (e : ev (valB (bsOf u)) (treeOf l1) = ev (valB (bsOf u)) (treeOf l2)) : subOf u l1 = subOf u l2 := by
  rw [ev_valB (may_nf h), ev_valB (may_nf h)] at e
  exact ev_leaf_inj (sub_is_one h h2) (sub_is_one h h3) e
end
section
variable {ps ps' : List (List TN × List TN)} {k : Nat} {out u : List ABind}
theorem SolvedTo.may (h : SolvedTo ps k out) : MayP out := by
  obtain ⟨bs, h1, h2⟩ := h.out
  rw [h2]; exact ok_may h.wf h1
theorem SolvedTo.bs (h : SolvedTo ps k out) : Comes (eqsP ps k) (.ok (bsOf out)) := by
  obtain ⟨bs, h1, h2⟩ := h.out
  rw [h2, bsOf_map h.wf h1]; exact h1
theorem mem_eqsP {i : Nat} (hi : i < ps.length) (hk : i < k) : (treeOf ps[i].1, treeOf ps[i].2) ∈ eqsP ps k :=
  List.mem_map.2 ⟨ps[i], List.mem_take_iff_getElem.2 ⟨i, by omega, rfl⟩, rfl⟩
/-- what is found makes both terms of each pair alike -/
theorem SolvedTo.alike (h : SolvedTo ps k out) {i : Nat} (hi : i < ps.length) (hk : i < k) : subOf out ps[i].1 = subOf out ps[i].2 := by
  have h1 := h.bs
  have h2 : Sat (valB (bsOf out)) (eqsP ps k) := (h1.2.1 _).2 (valB_sat h1.1)
  obtain ⟨r1, r2⟩ := h.right i hi hk
  exact pair_solved h.may r1 r2 (h2 _ (mem_eqsP hi hk))
/-- what is found, applied to both terms of a pair -/
theorem SolvedTo.apply2 (h : SolvedTo ps k out) {i : Nat} (hi : i < ps.length) (hk : i < k) : (∃ T, OkT T ∧ applyE out ps[i].1 = 0 ∧ applyL out ps[i].1 = T.flat 0 ∧ applyE out ps[i].2 = 0 ∧ applyL out ps[i].2 = T.flat 0) ∨ (applyE out ps[i].1 = 3 ∧ applyL out ps[i].1 = [] ∧ applyE out ps[i].2 = 3 ∧ applyL out ps[i].2 = []) := by
  obtain ⟨r1, r2⟩ := h.right i hi hk
  have e := h.alike hi hk
  by_cases h3 : 256 < (subOf out ps[i].1).size
  · obtain ⟨a1, a2⟩ := apply_long h.may r1 h3
    obtain ⟨b1, b2⟩ := apply_long h.may r2 (by rw [← e]; exact h3)
    exact .inr ⟨a1, a2, b1, b2⟩
  · obtain ⟨a1, a2⟩ := apply_ok h.may r1 h3
    obtain ⟨b1, b2⟩ := apply_ok h.may r2 (by rw [← e]; exact h3)
    exact .inl ⟨_, sub_okT h.may r1 h3, a1, a2, b1, by rw [b2, ← e]⟩
/-- and to any term, and once more -/
theorem apply_again {b : List ABind} (h : MayP b) (l : List TN) : (∃ T, OkT T ∧ applyE b l = 0 ∧ applyL b l = T.flat 0 ∧ rightI l = 0 ∧ applyE b (T.flat 0) = 0 ∧ applyL b (T.flat 0) = T.flat 0) ∨ (applyE b l ≠ 0 ∧ applyL b l = [] ∧ ((rightI l = 0 ∧ applyE b l = 3) ∨ (rightI l ≠ 0 ∧ applyE b l = rightI l))) := by
  by_cases h2 : rightI l = 0
  · by_cases h3 : 256 < (subOf b l).size
    · obtain ⟨a1, a2⟩ := apply_long h h2 h3
      exact .inr ⟨by rw [a1]; decide, a2, .inl ⟨h2, a1⟩⟩
    · obtain ⟨a1, a2⟩ := apply_ok h h2 h3
      have e := sub_again h h2 h3
      have h4 := sub_right h h2 h3
      obtain ⟨b1, b2⟩ := apply_ok (l := (subOf b l).flat 0) h h4 (by rw [e]; exact h3)
      exact .inl ⟨_, sub_okT h h2 h3, a1, a2, h2, b1, by rw [b2, e]⟩
  · obtain ⟨a1, a2⟩ := apply_bad h h2
    exact .inr ⟨by rw [a1]; exact h2, a2, .inr ⟨h2, a1⟩⟩
/-- all pairs are of right terms, and have a bound -/
def Fine (ps : List (List TN × List TN)) : Prop := (∀ p ∈ ps, rightI p.1 = 0 ∧ rightI p.2 = 0) ∧ ∃ us, NF us ∧ (∀ p ∈ us, p.2.size ≤ 256) ∧ Sat (valB us) (eqsP ps ps.length)
theorem StepErr.ne {err : Int} (h : StepErr ps k err) : err ≠ 0 := by
  obtain ⟨_, ⟨a, b⟩ | ⟨_, a, b⟩ | ⟨_, _, o, _, a, b⟩⟩ := h
  · rw [b]; exact a
  · rw [b]; exact a
  · cases o with
    | ok bs => exact absurd rfl (a bs)
    | clash => rw [b.1]; decide
    | occurs => rw [b.1]; decide
    | long => rw [b.1]; decide
theorem SolveSays.ok_of {err at_ : Int} (h : SolveSays ps err at_ out) (hl : ps.length ≤ 4096) (hf : Fine ps) : SolvedTo ps ps.length out ∧ err = 0 ∧ at_ = 0 := by
  rcases h with ⟨a, _⟩ | ⟨_, a, b, c⟩ | ⟨_, k, o, a, ⟨hk, c⟩, _⟩
  · omega
  · exact ⟨a, b, c⟩
  · exfalso
    obtain ⟨f1, us, f2, f3, f4⟩ := hf
    obtain ⟨r1, r2⟩ := f1 _ (List.getElem_mem hk)
    rcases c with ⟨c, _⟩ | ⟨_, c, _⟩ | ⟨_, _, o', c, d, _⟩
    · exact c r1
    · exact c r2
    · obtain ⟨bs, e⟩ := find_ok c f2 f3 (fun p hp => f4 p (by
        obtain ⟨q, hq, rfl⟩ := List.mem_map.1 hp
        refine List.mem_map.2 ⟨q, ?_, rfl⟩
        rw [List.take_length]
        exact List.mem_of_mem_take hq))
      exact d bs e
/-- what Solve says: it is found, or it is not, and there is none -/
theorem SolveSays.cases {err at_ : Int} (h : SolveSays ps err at_ out) (hl : ps.length ≤ 4096) : (err = 0 ∧ at_ = 0 ∧ SolvedTo ps ps.length out) ∨ (err ≠ 0 ∧ out = [] ∧ ¬ Fine ps ∧ 0 ≤ at_ ∧ at_ < (ps.length : Nat)) := by
  rcases h with ⟨a, _⟩ | ⟨_, a, b, c⟩ | ⟨h4, k, o, a, b, c, d⟩
  · omega
  · exact .inl ⟨b, c, a⟩
  · refine .inr ⟨b.ne, d, fun hf => b.ne ?_, by omega, by have := b.choose; omega⟩
    exact (SolveSays.ok_of (.inr (.inr ⟨h4, k, o, a, b, c, d⟩)) hl hf).2.1
/-- a bound makes the pairs ahead alike -/
def Alk (u : List ABind) (ps : List (List TN × List TN)) (i : Nat) : Prop := ∀ j (h : j < ps.length), j < i → MayP u ∧ rightI ps[j].1 = 0 ∧ rightI ps[j].2 = 0 ∧ subOf u ps[j].1 = subOf u ps[j].2
theorem Alk.start (u : List ABind) (ps : List (List TN × List TN)) : Alk u ps 0 := fun _ _ h => absurd h (Nat.not_lt_zero _)
theorem apply_tree {l : List TN} (h : applyE u l = 0) : ∃ T, OkT T ∧ applyL u l = T.flat 0 ∧ MayP u ∧ rightI l = 0 ∧ subOf u l = T := by
  rcases apply_fact u l with ⟨_, a, b, c, d⟩ | ⟨a, _⟩ | ⟨a, _⟩
  · exact ⟨_, sub_okT a b c, d, a, b, rfl⟩
  · rw [a] at h; exact absurd h (by decide)
  · exact absurd h a
theorem Alk.next {i : Nat} (h : Alk u ps i) (hi : i < ps.length) (h1 : applyE u ps[i].1 = 0) (h2 : applyE u ps[i].2 = 0) : ∃ T1 T2, OkT T1 ∧ OkT T2 ∧ applyL u ps[i].1 = T1.flat 0 ∧ applyL u ps[i].2 = T2.flat 0 ∧ (T1 = T2 → Alk u ps (i + 1)) := by
  obtain ⟨T1, a1, a2, a3, a4, a5⟩ := apply_tree h1
  obtain ⟨T2, b1, b2, _, b4, b5⟩ := apply_tree h2
  refine ⟨T1, T2, a1, b1, a2, b2, fun e j hj hji => ?_⟩
  by_cases hlt : j < i
  · exact h j hj hlt
  · have : j = i := by omega
    subst this
    exact ⟨a3, a4, b4, by rw [a5, b5, e]⟩
end
end Go.Proofs.YtgcbnndbeoekgaaDoor
end
section
/- the law: a bound that is found makes one term of both of each pair, and applied once more changes nothing; given that awake answers true -/
namespace Go.Proofs.YtgcbnndbeoekgaaDoor
open Go Go.RowKit Go.Maps

theorem okT_names {T : Fo} (h : OkT T) : ∀ t ∈ T.flat 0, t.name.size ≤ 9223372036854775807 := fun t ht => node_small (flat_nodeR T 0 h.2.1 t ht)

set_option maxRecDepth 100000 in
set_option maxHeartbeats 16000000 in
theorem alikeL_any (HAW : AwakeOk) (v0 : Value) (ps : List (List TN × List TN)) (u : Value) (l : List TN) (w : World) (hr0 : IsRow 2 EPair w (fun b => b < w.heap.size) v0 ps) (hz : ∀ p ∈ ps, TermAll p.1 ∧ TermAll p.2) (hx : IsRow 3 ETN w (fun b => b < w.heap.size) u l) (hzx : TermAll l) (ht : Tab w) :
    Calls Tryd.prog 5 #[v0, .agg #[u]] w fun e w' => e = .returned (.bool true) ∧ Below w.heap.size w w' := by
  obtain ⟨A, c, rfl, b1, b2, hr⟩ := hr0
  obtain ⟨S, k, rfl, x1, x2, x3⟩ := hx
  have HR := Lib.hid hr; have HZ := Lib.hid hz; have HTB := Lib.hid ht; have HX := Lib.hid x3; have HZX := Lib.hid hzx; have HXC := Lib.hid (And.intro x1 x2)
  have HC : Hid (ps.length ≤ c ∧ c ≤ maxLen) := Lib.hid ⟨b1, b2⟩
  have HLB : Hid (∀ n ∈ pairLens ps 1000, n ≤ 140737488355328) := Lib.hid (fun n hn => by
    obtain ⟨p, hp, h⟩ := List.mem_flatMap.1 hn
    have hp := hz p (List.mem_of_mem_take hp)
    have h1 := hp.1.2; have h2 := hp.2.2
    simp only [List.mem_cons, List.not_mem_nil, or_false] at h
    rcases h with rfl | rfl <;> omega)
  have HLL : Hid ((pairLens ps 1000).length ≤ 4000) := Lib.hid (by have := pairLens_len ps 1000; omega)
  have HSM : Hid (∀ p ∈ ps, (∀ t ∈ p.1, t.name.size ≤ 9223372036854775807) ∧ ∀ t ∈ p.2, t.name.size ≤ 9223372036854775807) := Lib.hid (fun p hp => ⟨fun t ht => ((HZ.out p hp).1.1 t ht).1, fun t ht => ((HZ.out p hp).2.1 t ht).1⟩)
  have HSMX : Hid (∀ t ∈ l, t.name.size ≤ 9223372036854775807) := Lib.hid (fun t ht => (HZX.out.1 t ht).1)
  unfold maxLen at b2
  obtain ⟨n, hn⟩ : ∃ n, ps.length = n := ⟨_, rfl⟩
  have HN := Lib.hid hn
  obtain ⟨m, hm⟩ : ∃ m, l.length = m := ⟨_, rfl⟩
  have HM := Lib.hid hm
  rw [hn] at b1 ⊢
  rw [hm]
  clear hr hz hn ht hm hzx x1 x2 x3
  go_enter Tryd.func5, Tryd.ntmps5
  obtain ⟨u1, hu⟩ : ∃ u : World, w.alloc (.cells #[.slice S m k] 24) = u := ⟨_, rfl⟩
  have HBU : Below w.heap.size w u1 := by rw [← hu]; exact (Below.refl _ _).alloc (Nat.le_refl _) _
  have HBX : Hid (Blk u1 w.heap.size 24 #[.slice S m k]) := Lib.hid (by rw [← hu]; exact Blk.new _ _ _)
  have HUE := Lib.hid hu
  clear hu
  have HB_w : Hid (Below w.heap.size w u1) := Lib.hid HBU
  clear HBU
  go_wp2_with fail
  (try rw [HUE.out])
  refine (HAW _ (HTB.out.below HB_w.out)).mono ?_
  rintro _ w0 ⟨rfl, hb⟩
  replace HB_w : Hid (Below w.heap.size w w0) := Lib.hid (HB_w.out.trans (hb.mono HB_w.out.size))
  replace HBX := Lib.hid (HBX.out.below hb HBX.out.lt)
  clear hb HUE HAW
  have HOF := Lib.hid (of_any A c ps w0 (fun b => b < w.heap.size) (fun b h => Nat.lt_of_lt_of_le h HB_w.out.size) (HR.out.keep EPair.stays (Keep.below HB_w.out (fun b h => h)) (fun _ h => h)) HC.out.1 HC.out.2)
  rw [HN.out] at HOF
  by_cases h100 : 100 < n
  · have h100' : (100 : Int) < n := by omega
    go_wp2_with fail
    go_ret
    exact ⟨rfl, HB_w.out⟩
  have h100' : ¬ (100 : Int) < n := by omega
  go_wp2_with fail
  refine HOF.out.mono ?_
  rintro _ w1 ⟨v1, rfl, hv1, hb⟩
  replace HB_w : Hid (Below w.heap.size w w1) := Lib.hid (HB_w.out.trans (hb.mono HB_w.out.size))
  replace HBX := Lib.hid (HBX.out.below hb HBX.out.lt)
  have HV1 := Lib.hid (wide_any v1 (pairLens ps 1000) w1 _ hv1 HLB.out HLL.out)
  clear hv1 hb HOF HLB HLL
  by_cases hw : 400 < (pairLens ps 1000).sum
  · have HD : Hid (decide (400 < (pairLens ps 1000).sum) = true) := Lib.hid (decide_eq_true hw)
    rw [HD.out] at HV1
    clear hw
    go_wp2_with (go_at_call 16; refine HV1.out.mono ?_; rintro e w' ⟨rfl, rfl⟩)
    go_ret
    exact ⟨rfl, HB_w.out⟩
  have HD : Hid (decide (400 < (pairLens ps 1000).sum) = false) := Lib.hid (decide_eq_false hw)
  rw [HD.out] at HV1
  have HT : Hid (Tried ps) := Lib.hid (fun _ => ⟨by omega, .inl (by rw [HN.out]; omega)⟩)
  have HS := Lib.hid (usolve_any A c ps w1 (fun b => b < w.heap.size) (fun b h => Nat.lt_of_lt_of_le h HB_w.out.size) (HR.out.keep EPair.stays (Keep.below HB_w.out (fun b h => h)) (fun _ h => h)) HC.out.1 HC.out.2 HSM.out HT.out.few)
  rw [HN.out] at HS
  clear hw
  go_upto_region 5 with (go_at_call 16; refine HV1.out.mono ?_; rintro e w' ⟨rfl, rfl⟩)
  clear HV1 HD
  go_wp2_with fail
  refine HS.out.mono ?_
  rintro _ w5 ⟨err, at_, out, v, hsay, rfl, hrow, hb⟩
  replace HB_w : Hid (Below w.heap.size w w5) := Lib.hid (HB_w.out.trans (hb.mono HB_w.out.size))
  replace HBX := Lib.hid (HBX.out.below hb HBX.out.lt)
  obtain ⟨Ad, cd, rfl, y1, y2, y3⟩ := hrow
  have HDR : Hid (RowOf 2 EBind w5 (fun b => b < w5.heap.size) Ad out) := Lib.hid (y3.keep EBind.stays (Keep.refl _ _) (fun b h => h.2)); have HDC := Lib.hid (And.intro y1 y2)
  have HSAY := Lib.hid (hsay.cases (by rw [HN.out]; omega))
  clear HS hsay hb y1 y2 y3
  rcases HSAY.out with h | h
  rotate_left 1
  · obtain ⟨e1, rfl, _, e2, e3⟩ := h
    rw [HN.out] at e3
    have e1' : (err != 0) = true := by simp; exact e1
    clear e1
    go_wp2
    go_ret
    exact ⟨rfl, HB_w.out⟩
  obtain ⟨rfl, rfl, hso⟩ := h
  have HSO := Lib.hid hso
  have HFEW : Hid (out.length ≤ 1048576) := Lib.hid (by have := HT.out.few (by rw [HN.out]; omega) _ _ hso; omega)
  clear hso HSAY
  obtain ⟨d, hd⟩ : ∃ d, out.length = d := ⟨_, rfl⟩
  have HDN := Lib.hid hd
  rw [hd]
  clear hd
  have HAPP : Hid (∀ (u : World) (S1 : Option Addr) (c1 : Nat) (l1 : List TN), Below w5.heap.size w5 u → RowOf 3 ETN u (fun b => b < u.heap.size) S1 l1 → l1.length ≤ c1 → c1 ≤ maxLen → (∀ t ∈ l1, t.name.size ≤ 9223372036854775807) → Calls Tryd.prog 19 #[.slice Ad d cd, .agg #[.slice S1 l1.length c1]] u (TermRes u (applyE out l1) (applyL out l1))) := Lib.hid (fun u S1 c1 l1 hu h1 h2 h3 h4 => by
    rw [← HDN.out]
    exact uapply_any Ad cd out S1 c1 l1 u (fun b => b < u.heap.size) (fun b h => h) h1 (HDR.out.keep EBind.stays (Keep.below hu (fun b h => h)) (fun b h => Nat.lt_of_lt_of_le h hu.size)) h2 h3 HDC.out.1 HDC.out.2 HFEW.out h4 HSO.out.small)
  go_upto_region 9 with fail
  go_loopg [8] n (fun g s8 wx => ∃ (i : Nat), s8 = .int .i64 i ∧ g = n - i ∧ i ≤ n ∧ Below w5.heap.size w5 wx)
  case atStart => exact ⟨0, rfl, rfl, Nat.zero_le _, Below.refl _ _⟩
  case round =>
    obtain ⟨i, rfl, rfl, hi, hb⟩ := hrel
    have i0 : (0 : Int) ≤ i := by omega
    have HB5 := Lib.hid hb
    replace HB_w : Hid (Below w.heap.size w wr) := Lib.hid (HB_w.out.trans (hb.mono HB_w.out.size))
    have HB_w5 : Hid (Below w5.heap.size w5 wr) := Lib.hid hb
    replace HBX := Lib.hid (HBX.out.below hb HBX.out.lt)
    clear hb
    by_cases hin : i < n
    · have hin' : (i : Int) < n := by omega
      have HIP : Hid (i < ps.length) := Lib.hid (by rw [HN.out]; exact hin)
      obtain ⟨b, off, S1, c1, S2, c2, rfl, hbF, d0, d1, ⟨x1, x2, x3⟩, y1, y2, y3⟩ := pair_at HR.out HIP.out
      have HAE := Lib.hid (HSO.out.apply2 HIP.out HIP.out)
      obtain ⟨l1, hl1⟩ : ∃ z, (ps[i]'HIP.out).1 = z := ⟨_, rfl⟩
      obtain ⟨l2, hl2⟩ : ∃ z, (ps[i]'HIP.out).2 = z := ⟨_, rfl⟩
      have HZK := Lib.hid (HSM.out _ (List.getElem_mem HIP.out))
      rw [hl1] at d0 x1 x3 HZK
      rw [hl2] at d1 y1 y3 HZK
      rw [hl1, hl2] at HAE
      have HX1 := Lib.hid (And.intro x3 (And.intro x1 x2)); have HX2 := Lib.hid (And.intro y3 (And.intro y1 y2))
      have HD0 := Lib.hid (And.intro d0 d1)
      clear hl1 hl2 x1 x2 x3 y1 y2 y3 d0 d1
      have HA1 := Lib.hid (HAPP.out wr S1 c1 l1 HB_w5.out (HX1.out.1.keep ETN.stays (Keep.below HB_w.out (fun b h => h)) (fun b h => Nat.lt_of_lt_of_le h HB_w.out.size)) HX1.out.2.1 HX1.out.2.2 HZK.out.1)
      obtain ⟨m1, hm1⟩ : ∃ z, l1.length = z := ⟨_, rfl⟩
      obtain ⟨m2, hm2⟩ : ∃ z, l2.length = z := ⟨_, rfl⟩
      have HM2 := Lib.hid hm2
      rw [hm1] at HA1
      rw [hm1, hm2] at HD0
      clear hm1 hm2
      have d0 := (HB_w.out.cell (p := ⟨b, off + i * 2, none⟩) hbF).trans HD0.out.1
      rcases HAE.out with ⟨T, hT, a1, a2, a3, a4⟩ | ⟨a1, a2, a3, a4⟩
      · rw [a1, a2] at HA1
        have HT1 := Lib.hid (And.intro a3 a4)
        have HOT := Lib.hid hT
        obtain ⟨fl, hfl⟩ : ∃ z, T.flat 0 = z := ⟨_, rfl⟩
        have HFL := Lib.hid hfl
        rw [hfl] at HA1 HT1
        clear a1 a2 a3 a4 HAE hT hfl
        go_wp2_with fail
        (try rw [HUE.out])
        refine (HA1.out).mono ?_
        rintro _ w2 ⟨vy, rfl, hb, hr⟩
        obtain ⟨Ay, cy, rfl, y1, y2, y3⟩ := hr
        have HRy := Lib.hid y3
        have HCy := Lib.hid (And.intro y1 y2)
        try clear HUE
        replace HB_w : Hid (Below w.heap.size w w2) := Lib.hid (HB_w.out.trans (hb.mono HB_w.out.size))
        replace HB_w5 : Hid (Below w5.heap.size w5 w2) := Lib.hid (HB_w5.out.trans (hb.mono HB_w5.out.size))
        replace HBX := Lib.hid (HBX.out.below hb HBX.out.lt)
        clear hb y1 y2 y3
        obtain ⟨ly, hly⟩ : ∃ z, fl.length = z := ⟨_, rfl⟩
        have HLY := Lib.hid hly
        rw [hly]
        clear hly
        obtain ⟨u3, hu⟩ : ∃ u : World, w2.alloc (.cells #[.slice Ay ly cy] 24) = u := ⟨_, rfl⟩
        have HBU : Below w2.heap.size w2 u3 := by rw [← hu]; exact (Below.refl _ _).alloc (Nat.le_refl _) _
        have HBY : Hid (Blk u3 w2.heap.size 24 #[.slice Ay ly cy]) := Lib.hid (by rw [← hu]; exact Blk.new _ _ _)
        have HUE := Lib.hid hu
        clear hu
        replace HB_w : Hid (Below w.heap.size w u3) := Lib.hid (HB_w.out.trans (HBU.mono HB_w.out.size))
        replace HB_w5 : Hid (Below w5.heap.size w5 u3) := Lib.hid (HB_w5.out.trans (HBU.mono HB_w5.out.size))
        have HB_w2 : Hid (Below w2.heap.size w2 u3) := Lib.hid HBU
        replace HBX := Lib.hid (HBX.out.below HBU HBX.out.lt)
        clear HBU
        go_upto_region 12 with fail
        (try rw [HUE.out])
        (try clear HUE)
        clear d0
        have d1 := (HB_w.out.cell (p := ⟨b, off + i * 2 + 1, none⟩) hbF).trans HD0.out.2
        have HA2 := Lib.hid (HAPP.out u3 S2 c2 l2 HB_w5.out (HX2.out.1.keep ETN.stays (Keep.below HB_w.out (fun b h => h)) (fun b h => Nat.lt_of_lt_of_le h HB_w.out.size)) HX2.out.2.1 HX2.out.2.2 HZK.out.2)
        rw [HM2.out, HT1.out.1, HT1.out.2] at HA2
        go_wp2_with fail
        (try rw [HUE.out])
        refine (HA2.out).mono ?_
        rintro _ w4 ⟨vz, rfl, hb, hr⟩
        obtain ⟨Az, cz, rfl, y1, y2, y3⟩ := hr
        have HRz := Lib.hid y3
        have HCz := Lib.hid (And.intro y1 y2)
        try clear HUE
        replace HB_w : Hid (Below w.heap.size w w4) := Lib.hid (HB_w.out.trans (hb.mono HB_w.out.size))
        replace HB_w5 : Hid (Below w5.heap.size w5 w4) := Lib.hid (HB_w5.out.trans (hb.mono HB_w5.out.size))
        replace HB_w2 : Hid (Below w2.heap.size w2 w4) := Lib.hid (HB_w2.out.trans (hb.mono HB_w2.out.size))
        replace HBX := Lib.hid (HBX.out.below hb HBX.out.lt)
        replace HBY := Lib.hid (HBY.out.below hb HBY.out.lt)
        clear hb y1 y2 y3
        try rw [HLY.out]
        obtain ⟨u5, hu⟩ : ∃ u : World, w4.alloc (.cells #[.slice Az ly cz] 24) = u := ⟨_, rfl⟩
        have HBU : Below w4.heap.size w4 u5 := by rw [← hu]; exact (Below.refl _ _).alloc (Nat.le_refl _) _
        have HBZ : Hid (Blk u5 w4.heap.size 24 #[.slice Az ly cz]) := Lib.hid (by rw [← hu]; exact Blk.new _ _ _)
        have HUE := Lib.hid hu
        clear hu
        replace HB_w : Hid (Below w.heap.size w u5) := Lib.hid (HB_w.out.trans (HBU.mono HB_w.out.size))
        replace HB_w5 : Hid (Below w5.heap.size w5 u5) := Lib.hid (HB_w5.out.trans (HBU.mono HB_w5.out.size))
        replace HB_w2 : Hid (Below w2.heap.size w2 u5) := Lib.hid (HB_w2.out.trans (HBU.mono HB_w2.out.size))
        have HB_w4 : Hid (Below w4.heap.size w4 u5) := Lib.hid HBU
        replace HBX := Lib.hid (HBX.out.below HBU HBX.out.lt)
        replace HBY := Lib.hid (HBY.out.below HBU HBY.out.lt)
        clear HBU
        go_upto_region 13 with fail
        (try rw [HUE.out])
        (try clear HUE)
        clear d1 HA1 HA2 HT1
        have HAL := Lib.hid (ualike_any Ay cy Az cz T HOT.out u5 (fun b => b < u5.heap.size) (fun b h => h)
          (by rw [HFL.out]; exact (HRy.out.keep ETN.stays (Keep.below HB_w2.out (fun b h => h)) (fun b h => Nat.lt_of_lt_of_le h HB_w2.out.size))) (by rw [HFL.out]; exact HCy.out.1) HCy.out.2 (by rw [HFL.out]; exact (HRz.out.keep ETN.stays (Keep.below HB_w4.out (fun b h => h)) (fun b h => Nat.lt_of_lt_of_le h HB_w4.out.size))) (by rw [HFL.out]; exact HCz.out.1) HCz.out.2 (HTB.out.below HB_w.out))
        rw [HFL.out, HLY.out] at HAL
        have HBYc0 := HBY.out.cell 0
        have HBYlt := HBY.out.lt
        simp at HBYc0
        have HBZc0 := HBZ.out.cell 0
        have HBZlt := HBZ.out.lt
        simp at HBZc0
        go_wp2_with fail
        refine HAL.out.mono ?_
        rintro _ w9 ⟨rfl, hb⟩
        replace HB_w : Hid (Below w.heap.size w w9) := Lib.hid (HB_w.out.trans (hb.mono HB_w.out.size))
        replace HB_w5 : Hid (Below w5.heap.size w5 w9) := Lib.hid (HB_w5.out.trans (hb.mono HB_w5.out.size))
        replace HB_w2 : Hid (Below w2.heap.size w2 w9) := Lib.hid (HB_w2.out.trans (hb.mono HB_w2.out.size))
        replace HB_w4 : Hid (Below w4.heap.size w4 w9) := Lib.hid (HB_w4.out.trans (hb.mono HB_w4.out.size))
        replace HBX := Lib.hid (HBX.out.below hb HBX.out.lt)
        replace HBY := Lib.hid (HBY.out.below hb HBY.out.lt)
        replace HBZ := Lib.hid (HBZ.out.below hb HBZ.out.lt)
        clear hb HAL HBYc0 HBYlt HBZc0 HBZlt
        go_wp2_with fail
        go_roundg (n - (i + 1))
        case measure => omega
        case rel => exact ⟨i + 1, by go_num, rfl, by omega, HB_w5.out⟩
      · rw [a1, a2] at HA1
        have HT1 := Lib.hid (And.intro a3 a4)
        clear a1 a2 a3 a4 HAE
        go_wp2_with fail
        (try rw [HUE.out])
        refine (HA1.out).mono ?_
        rintro _ w2 ⟨vy, rfl, hb, hr⟩
        obtain ⟨Ay, cy, rfl, y1, y2, y3⟩ := hr
        have HRy := Lib.hid y3
        have HCy := Lib.hid (And.intro y1 y2)
        try clear HUE
        replace HB_w : Hid (Below w.heap.size w w2) := Lib.hid (HB_w.out.trans (hb.mono HB_w.out.size))
        replace HB_w5 : Hid (Below w5.heap.size w5 w2) := Lib.hid (HB_w5.out.trans (hb.mono HB_w5.out.size))
        replace HBX := Lib.hid (HBX.out.below hb HBX.out.lt)
        clear hb y1 y2 y3
        try rw [show ([] : List TN).length = 0 from rfl]
        obtain ⟨u3, hu⟩ : ∃ u : World, w2.alloc (.cells #[.slice Ay 0 cy] 24) = u := ⟨_, rfl⟩
        have HBU : Below w2.heap.size w2 u3 := by rw [← hu]; exact (Below.refl _ _).alloc (Nat.le_refl _) _
        have HBY : Hid (Blk u3 w2.heap.size 24 #[.slice Ay 0 cy]) := Lib.hid (by rw [← hu]; exact Blk.new _ _ _)
        have HUE := Lib.hid hu
        clear hu
        replace HB_w : Hid (Below w.heap.size w u3) := Lib.hid (HB_w.out.trans (HBU.mono HB_w.out.size))
        replace HB_w5 : Hid (Below w5.heap.size w5 u3) := Lib.hid (HB_w5.out.trans (HBU.mono HB_w5.out.size))
        have HB_w2 : Hid (Below w2.heap.size w2 u3) := Lib.hid HBU
        replace HBX := Lib.hid (HBX.out.below HBU HBX.out.lt)
        clear HBU
        go_upto_region 12 with fail
        (try rw [HUE.out])
        (try clear HUE)
        clear d0
        have d1 := (HB_w.out.cell (p := ⟨b, off + i * 2 + 1, none⟩) hbF).trans HD0.out.2
        have HA2 := Lib.hid (HAPP.out u3 S2 c2 l2 HB_w5.out (HX2.out.1.keep ETN.stays (Keep.below HB_w.out (fun b h => h)) (fun b h => Nat.lt_of_lt_of_le h HB_w.out.size)) HX2.out.2.1 HX2.out.2.2 HZK.out.2)
        rw [HM2.out, HT1.out.1, HT1.out.2] at HA2
        go_wp2_with fail
        (try rw [HUE.out])
        refine (HA2.out).mono ?_
        rintro _ w4 ⟨vz, rfl, hb, hr⟩
        obtain ⟨Az, cz, rfl, y1, y2, y3⟩ := hr
        have HRz := Lib.hid y3
        have HCz := Lib.hid (And.intro y1 y2)
        try clear HUE
        replace HB_w : Hid (Below w.heap.size w w4) := Lib.hid (HB_w.out.trans (hb.mono HB_w.out.size))
        replace HB_w5 : Hid (Below w5.heap.size w5 w4) := Lib.hid (HB_w5.out.trans (hb.mono HB_w5.out.size))
        replace HB_w2 : Hid (Below w2.heap.size w2 w4) := Lib.hid (HB_w2.out.trans (hb.mono HB_w2.out.size))
        replace HBX := Lib.hid (HBX.out.below hb HBX.out.lt)
        replace HBY := Lib.hid (HBY.out.below hb HBY.out.lt)
        clear hb y1 y2 y3
        try rw [show ([] : List TN).length = 0 from rfl]
        obtain ⟨u5, hu⟩ : ∃ u : World, w4.alloc (.cells #[.slice Az 0 cz] 24) = u := ⟨_, rfl⟩
        have HBU : Below w4.heap.size w4 u5 := by rw [← hu]; exact (Below.refl _ _).alloc (Nat.le_refl _) _
        have HBZ : Hid (Blk u5 w4.heap.size 24 #[.slice Az 0 cz]) := Lib.hid (by rw [← hu]; exact Blk.new _ _ _)
        have HUE := Lib.hid hu
        clear hu
        replace HB_w : Hid (Below w.heap.size w u5) := Lib.hid (HB_w.out.trans (HBU.mono HB_w.out.size))
        replace HB_w5 : Hid (Below w5.heap.size w5 u5) := Lib.hid (HB_w5.out.trans (HBU.mono HB_w5.out.size))
        replace HB_w2 : Hid (Below w2.heap.size w2 u5) := Lib.hid (HB_w2.out.trans (HBU.mono HB_w2.out.size))
        have HB_w4 : Hid (Below w4.heap.size w4 u5) := Lib.hid HBU
        replace HBX := Lib.hid (HBX.out.below HBU HBX.out.lt)
        replace HBY := Lib.hid (HBY.out.below HBU HBY.out.lt)
        clear HBU
        go_upto_region 13 with fail
        (try rw [HUE.out])
        (try clear HUE)
        clear d1 HA1 HA2 HT1
        go_wp2_with fail
        go_roundg (n - (i + 1))
        case measure => omega
        case rel => exact ⟨i + 1, by go_num, rfl, by omega, HB_w5.out⟩
    · have hin' : ¬ (i : Int) < n := by omega
      have HA1 := Lib.hid (HAPP.out wr S k l HB_w5.out (HX.out.keep ETN.stays (Keep.below HB_w.out (fun b h => h)) (fun b h => Nat.lt_of_lt_of_le h HB_w.out.size)) HXC.out.1 HXC.out.2 HSMX.out)
      rw [HM.out] at HA1
      have HAG := Lib.hid (apply_again HSO.out.may l)
      obtain ⟨r, hr⟩ : ∃ r, rightI l = r := ⟨_, rfl⟩
      have HRR := Lib.hid hr
      rw [hr] at HAG
      clear hr
      have HRI : Hid (∀ w', Below w.heap.size w w' → Calls Tryd.prog 9 #[.agg #[.slice S m k]] w' fun e w2 => e = .returned (.int .i64 r) ∧ Below w'.heap.size w' w2) := Lib.hid (fun w' hb => by
        rw [← HRR.out, ← HM.out]
        exact uright_any S k l w' (fun b => b < w'.heap.size) (fun b h => h) (HX.out.keep ETN.stays (Keep.below hb (fun b h => h)) (fun b h => Nat.lt_of_lt_of_le h hb.size)) HXC.out.1 HXC.out.2 HSMX.out)
      have HBXc0 := HBX.out.cell 0
      have HBXlt := HBX.out.lt
      simp at HBXc0
      rcases HAG.out with ⟨T, hT, a1, a2, a3, a4, a5⟩ | ⟨a0, a2, ha⟩
      · subst a3
        have HOT := Lib.hid hT
        obtain ⟨fl, hfl⟩ : ∃ z, T.flat 0 = z := ⟨_, rfl⟩
        have HFL := Lib.hid hfl
        have HT1 := Lib.hid (And.intro a4 a5)
        rw [a1, a2, hfl] at HA1
        rw [hfl] at HT1
        clear a1 a2 a4 a5 hT hfl HAG
        go_wp2_with fail
        (try rw [HUE.out])
        refine (HA1.out).mono ?_
        rintro _ w2 ⟨vy, rfl, hb, hr⟩
        obtain ⟨Ay, cy, rfl, y1, y2, y3⟩ := hr
        have HRy := Lib.hid y3
        have HCy := Lib.hid (And.intro y1 y2)
        try clear HUE
        replace HB_w : Hid (Below w.heap.size w w2) := Lib.hid (HB_w.out.trans (hb.mono HB_w.out.size))
        replace HB_w5 : Hid (Below w5.heap.size w5 w2) := Lib.hid (HB_w5.out.trans (hb.mono HB_w5.out.size))
        replace HBX := Lib.hid (HBX.out.below hb HBX.out.lt)
        clear hb y1 y2 y3
        obtain ⟨ly, hly⟩ : ∃ z, fl.length = z := ⟨_, rfl⟩
        have HLY := Lib.hid hly
        rw [hly]
        clear hly HBXc0 HBXlt
        obtain ⟨u3, hu⟩ : ∃ u : World, w2.alloc (.cells #[.slice Ay ly cy] 24) = u := ⟨_, rfl⟩
        have HBU : Below w2.heap.size w2 u3 := by rw [← hu]; exact (Below.refl _ _).alloc (Nat.le_refl _) _
        have HBY : Hid (Blk u3 w2.heap.size 24 #[.slice Ay ly cy]) := Lib.hid (by rw [← hu]; exact Blk.new _ _ _)
        have HUE := Lib.hid hu
        clear hu
        replace HB_w : Hid (Below w.heap.size w u3) := Lib.hid (HB_w.out.trans (HBU.mono HB_w.out.size))
        replace HB_w5 : Hid (Below w5.heap.size w5 u3) := Lib.hid (HB_w5.out.trans (HBU.mono HB_w5.out.size))
        have HB_w2 : Hid (Below w2.heap.size w2 u3) := Lib.hid HBU
        replace HBX := Lib.hid (HBX.out.below HBU HBX.out.lt)
        clear HBU
        go_upto_region 16 with fail
        (try rw [HUE.out])
        (try clear HUE)
        have HBXc0 := HBX.out.cell 0
        have HBXlt := HBX.out.lt
        simp at HBXc0
        go_wp2_with fail
        refine (HRI.out _ HB_w.out).mono ?_
        rintro _ w10 ⟨rfl, hb⟩
        replace HB_w : Hid (Below w.heap.size w w10) := Lib.hid (HB_w.out.trans (hb.mono HB_w.out.size))
        replace HB_w5 : Hid (Below w5.heap.size w5 w10) := Lib.hid (HB_w5.out.trans (hb.mono HB_w5.out.size))
        replace HB_w2 : Hid (Below w2.heap.size w2 w10) := Lib.hid (HB_w2.out.trans (hb.mono HB_w2.out.size))
        replace HBX := Lib.hid (HBX.out.below hb HBX.out.lt)
        replace HBY := Lib.hid (HBY.out.below hb HBY.out.lt)
        clear hb HRI HBXc0 HBXlt
        have HBYc0 := HBY.out.cell 0
        have HBYlt := HBY.out.lt
        simp at HBYc0
        have HA2 := Lib.hid (HAPP.out w10 Ay cy fl HB_w5.out (HRy.out.keep ETN.stays (Keep.below HB_w2.out (fun b h => h)) (fun b h => Nat.lt_of_lt_of_le h HB_w2.out.size)) HCy.out.1 HCy.out.2 (by rw [← HFL.out]; exact okT_names HOT.out))
        rw [HLY.out, HT1.out.1, HT1.out.2] at HA2
        go_wp2_with fail
        (try rw [HUE.out])
        refine (HA2.out).mono ?_
        rintro _ w4 ⟨vz, rfl, hb, hr⟩
        obtain ⟨Az, cz, rfl, y1, y2, y3⟩ := hr
        have HRz := Lib.hid y3
        have HCz := Lib.hid (And.intro y1 y2)
        try clear HUE
        replace HB_w : Hid (Below w.heap.size w w4) := Lib.hid (HB_w.out.trans (hb.mono HB_w.out.size))
        replace HB_w5 : Hid (Below w5.heap.size w5 w4) := Lib.hid (HB_w5.out.trans (hb.mono HB_w5.out.size))
        replace HB_w2 : Hid (Below w2.heap.size w2 w4) := Lib.hid (HB_w2.out.trans (hb.mono HB_w2.out.size))
        replace HBX := Lib.hid (HBX.out.below hb HBX.out.lt)
        replace HBY := Lib.hid (HBY.out.below hb HBY.out.lt)
        clear hb y1 y2 y3
        try rw [HLY.out]
        clear HBYc0 HBYlt
        obtain ⟨u5, hu⟩ : ∃ u : World, w4.alloc (.cells #[.slice Az ly cz] 24) = u := ⟨_, rfl⟩
        have HBU : Below w4.heap.size w4 u5 := by rw [← hu]; exact (Below.refl _ _).alloc (Nat.le_refl _) _
        have HBZ : Hid (Blk u5 w4.heap.size 24 #[.slice Az ly cz]) := Lib.hid (by rw [← hu]; exact Blk.new _ _ _)
        have HUE := Lib.hid hu
        clear hu
        replace HB_w : Hid (Below w.heap.size w u5) := Lib.hid (HB_w.out.trans (HBU.mono HB_w.out.size))
        replace HB_w5 : Hid (Below w5.heap.size w5 u5) := Lib.hid (HB_w5.out.trans (HBU.mono HB_w5.out.size))
        replace HB_w2 : Hid (Below w2.heap.size w2 u5) := Lib.hid (HB_w2.out.trans (HBU.mono HB_w2.out.size))
        have HB_w4 : Hid (Below w4.heap.size w4 u5) := Lib.hid HBU
        replace HBX := Lib.hid (HBX.out.below HBU HBX.out.lt)
        replace HBY := Lib.hid (HBY.out.below HBU HBY.out.lt)
        clear HBU
        go_upto_region 20 with fail
        (try rw [HUE.out])
        (try clear HUE)
        have HAL := Lib.hid (ualike_any Ay cy Az cz T HOT.out u5 (fun b => b < u5.heap.size) (fun b h => h)
          (by rw [HFL.out]; exact (HRy.out.keep ETN.stays (Keep.below HB_w2.out (fun b h => h)) (fun b h => Nat.lt_of_lt_of_le h HB_w2.out.size))) (by rw [HFL.out]; exact HCy.out.1) HCy.out.2 (by rw [HFL.out]; exact (HRz.out.keep ETN.stays (Keep.below HB_w4.out (fun b h => h)) (fun b h => Nat.lt_of_lt_of_le h HB_w4.out.size))) (by rw [HFL.out]; exact HCz.out.1) HCz.out.2 (HTB.out.below HB_w.out))
        rw [HFL.out, HLY.out] at HAL
        have HBYc0 := HBY.out.cell 0
        have HBYlt := HBY.out.lt
        simp at HBYc0
        have HBZc0 := HBZ.out.cell 0
        have HBZlt := HBZ.out.lt
        simp at HBZc0
        go_wp2_with fail
        refine HAL.out.mono ?_
        rintro _ w11 ⟨rfl, hb⟩
        replace HB_w : Hid (Below w.heap.size w w11) := Lib.hid (HB_w.out.trans (hb.mono HB_w.out.size))
        replace HB_w5 : Hid (Below w5.heap.size w5 w11) := Lib.hid (HB_w5.out.trans (hb.mono HB_w5.out.size))
        replace HB_w2 : Hid (Below w2.heap.size w2 w11) := Lib.hid (HB_w2.out.trans (hb.mono HB_w2.out.size))
        replace HB_w4 : Hid (Below w4.heap.size w4 w11) := Lib.hid (HB_w4.out.trans (hb.mono HB_w4.out.size))
        replace HBX := Lib.hid (HBX.out.below hb HBX.out.lt)
        replace HBY := Lib.hid (HBY.out.below hb HBY.out.lt)
        replace HBZ := Lib.hid (HBZ.out.below hb HBZ.out.lt)
        clear hb HAL HBYc0 HBYlt HBZc0 HBZlt
        go_wp2
        go_ret
        exact ⟨rfl, HB_w.out⟩
      · obtain ⟨f, hf⟩ : ∃ f, applyE out l = f := ⟨_, rfl⟩
        rw [hf] at a0 ha HA1
        rw [a2] at HA1
        clear a2 hf HAG
        go_wp2_with fail
        (try rw [HUE.out])
        refine (HA1.out).mono ?_
        rintro _ w2 ⟨vy, rfl, hb, hr⟩
        obtain ⟨Ay, cy, rfl, y1, y2, y3⟩ := hr
        have HRy := Lib.hid y3
        have HCy := Lib.hid (And.intro y1 y2)
        try clear HUE
        replace HB_w : Hid (Below w.heap.size w w2) := Lib.hid (HB_w.out.trans (hb.mono HB_w.out.size))
        replace HB_w5 : Hid (Below w5.heap.size w5 w2) := Lib.hid (HB_w5.out.trans (hb.mono HB_w5.out.size))
        replace HBX := Lib.hid (HBX.out.below hb HBX.out.lt)
        clear hb y1 y2 y3
        try rw [show ([] : List TN).length = 0 from rfl]
        clear HBXc0 HBXlt
        obtain ⟨u3, hu⟩ : ∃ u : World, w2.alloc (.cells #[.slice Ay 0 cy] 24) = u := ⟨_, rfl⟩
        have HBU : Below w2.heap.size w2 u3 := by rw [← hu]; exact (Below.refl _ _).alloc (Nat.le_refl _) _
        have HUE := Lib.hid hu
        clear hu
        replace HB_w : Hid (Below w.heap.size w u3) := Lib.hid (HB_w.out.trans (HBU.mono HB_w.out.size))
        replace HB_w5 : Hid (Below w5.heap.size w5 u3) := Lib.hid (HB_w5.out.trans (HBU.mono HB_w5.out.size))
        have HB_w2 : Hid (Below w2.heap.size w2 u3) := Lib.hid HBU
        replace HBX := Lib.hid (HBX.out.below HBU HBX.out.lt)
        clear HBU
        go_upto_region 16 with fail
        (try rw [HUE.out])
        (try clear HUE)
        have HBXc0 := HBX.out.cell 0
        have HBXlt := HBX.out.lt
        simp at HBXc0
        go_wp2_with fail
        refine (HRI.out _ HB_w.out).mono ?_
        rintro _ w10 ⟨rfl, hb⟩
        replace HB_w : Hid (Below w.heap.size w w10) := Lib.hid (HB_w.out.trans (hb.mono HB_w.out.size))
        replace HB_w5 : Hid (Below w5.heap.size w5 w10) := Lib.hid (HB_w5.out.trans (hb.mono HB_w5.out.size))
        replace HB_w2 : Hid (Below w2.heap.size w2 w10) := Lib.hid (HB_w2.out.trans (hb.mono HB_w2.out.size))
        replace HBX := Lib.hid (HBX.out.below hb HBX.out.lt)
        clear hb HRI HBXc0 HBXlt
        have a0' : (f != 0) = true := by simp; exact a0
        rcases ha with ⟨h1, h2⟩ | ⟨h1, h2⟩
        · subst h1; subst h2
          clear a0 a0'
          go_wp2
          go_ret
          exact ⟨rfl, HB_w.out⟩
        · subst h2
          have g : (f == f) = true := by simp
          clear a0 h1
          go_wp2
          go_ret
          exact ⟨rfl, HB_w.out⟩
end Go.Proofs.YtgcbnndbeoekgaaDoor
end
