/- a term's nodes put into the program's web, in plain Lean -/
import Derived.Test.YtgcbnndbeoekgaaDoorPWeb
set_option linter.unusedSimpArgs false
set_option linter.unusedVariables false
namespace Go.Proofs.YtgcbnndbeoekgaaDoor
open Go Go.RowKit Go.Maps

/-- the trees at each place of a row of nodes -/
structure TreesAt (l : List TN) (o : Nat) (e : Nat) (tr : Nat → Fo) : Prop where
  at_ : ∀ j (h : j < l.length), (∃ n, 1 ≤ n ∧ l[j] = ⟨(n : Nat), ByteArray.empty, []⟩ ∧ tr (o + j) = .hole n .nil) ∨
    (∃ nm, ∃ ks : List Nat, l[j] = ⟨0, nm, ks.map fun a : Nat => (a : Int)⟩ ∧ tr (o + j) = .app nm (ofL (ks.map tr)) .nil ∧ ∀ a ∈ ks, o + j < a ∧ a < e)
theorem ofL_app (a b : List Fo) : ofL (a ++ b) = (ofL a).app2 (ofL b) := by
  induction a with
  | nil => rfl
  | cons x r ih => show x.app2 (ofL (r ++ b)) = (x.app2 (ofL r)).app2 (ofL b); rw [ih, Fo.app2_assoc]
theorem flat_trees : ∀ (F : Fo) (o : Nat), F.wf → ∃ tr : Nat → Fo, TreesAt (F.flat o) o (o + F.size) tr ∧ ∃ ks : List Nat, F.offs o = ks.map (fun a : Nat => (a : Int)) ∧ F = ofL (ks.map tr) ∧ ∀ a ∈ ks, o ≤ a ∧ a < o + F.size
  | .nil, o, _ => ⟨fun _ => .nil, ⟨fun j h => absurd h (by simp [Fo.flat])⟩, [], rfl, rfl, fun a h => by cases h⟩
  | .hole n r, o, hw => by
    obtain ⟨tr, ht, ks, h1, h2, h3⟩ := flat_trees r (o + 1) hw.2.2
    have hsz : (Fo.hole n r).size = 1 + r.size := rfl
    let tr' : Nat → Fo := fun j => if j = o then .hole n .nil else tr j
    have hne : ∀ j, o < j → tr' j = tr j := fun j hj => if_neg (by omega)
    have hmap : ∀ ks : List Nat, (∀ a ∈ ks, o < a) → ks.map tr' = ks.map tr := fun ks h => List.map_congr_left fun a ha => hne a (h a ha)
    refine ⟨tr', ⟨fun j hj => ?_⟩, o :: ks, ?_, ?_, ?_⟩
    · cases j with
      | zero => exact .inl ⟨n, hw.1, rfl, if_pos rfl⟩
      | succ j =>
        have hj2 : j < (r.flat (o + 1)).length := by simpa [Fo.flat] using hj
        have e : ((Fo.hole n r).flat o)[j + 1] = (r.flat (o + 1))[j] := rfl
        rw [e, hne _ (by omega), show o + (j + 1) = o + 1 + j by omega]
        rcases ht.at_ j hj2 with h | ⟨nm, bs, a1, a2, a3⟩
        · exact .inl h
        · exact .inr ⟨nm, bs, a1, by rw [hmap bs (fun a ha => by have := a3 a ha; omega)]; exact a2, fun a ha => by have := a3 a ha; omega⟩
    · show (o : Int) :: r.offs (o + 1) = _; rw [h1]; rfl
    · show Fo.hole n r = (tr' o).app2 (ofL (ks.map tr'))
      rw [hmap ks (fun a ha => by have := h3 a ha; omega), ← h2, show tr' o = .hole n .nil from if_pos rfl]; rfl
    · intro a ha
      rcases List.mem_cons.1 ha with e | e
      · omega
      · have := h3 a e; omega
  | .app nm k r, o, hw => by
    obtain ⟨tr1, ht1, as1, k1, k2, k3⟩ := flat_trees k (o + 1) hw.2.1
    obtain ⟨tr2, ht2, as2, r1, r2, r3⟩ := flat_trees r (o + 1 + k.size) hw.2.2
    have hsz : (Fo.app nm k r).size = 1 + k.size + r.size := rfl
    let tr' : Nat → Fo := fun j => if j = o then .app nm k .nil else if j < o + 1 + k.size then tr1 j else tr2 j
    have hne1 : ∀ j, o < j → j < o + 1 + k.size → tr' j = tr1 j := fun j hj hk => by show (if j = o then _ else _) = _; rw [if_neg (by omega), if_pos hk]
    have hne2 : ∀ j, o + 1 + k.size ≤ j → tr' j = tr2 j := fun j hj => by show (if j = o then _ else _) = _; rw [if_neg (by omega), if_neg (by omega)]
    have hmap1 : ∀ ks : List Nat, (∀ a ∈ ks, o < a ∧ a < o + 1 + k.size) → ks.map tr' = ks.map tr1 := fun ks h => List.map_congr_left fun a ha => hne1 a (h a ha).1 (h a ha).2
    have hmap2 : ∀ ks : List Nat, (∀ a ∈ ks, o + 1 + k.size ≤ a) → ks.map tr' = ks.map tr2 := fun ks h => List.map_congr_left fun a ha => hne2 a (h a ha)
    have hfl : (Fo.app nm k r).flat o = ⟨0, nm, k.offs (o + 1)⟩ :: (k.flat (o + 1) ++ r.flat (o + 1 + k.size)) := rfl
    refine ⟨tr', ⟨fun j hj => ?_⟩, o :: as2, ?_, ?_, ?_⟩
    · simp only [hfl] at hj ⊢
      cases j with
      | zero => exact .inr ⟨nm, as1, by simp only [List.getElem_cons_zero, k1], by rw [hmap1 as1 (fun a ha => by have := k3 a ha; omega), ← k2]; exact if_pos rfl, fun a ha => by have := k3 a ha; omega⟩
      | succ j =>
        simp only [List.getElem_cons_succ, List.length_cons, List.length_append, Fo.flat_len] at hj ⊢
        by_cases hjk : j < k.size
        · rw [List.getElem_append_left (by rw [Fo.flat_len]; exact hjk), hne1 _ (by omega) (by omega), show o + (j + 1) = o + 1 + j by omega]
          rcases ht1.at_ j (by rw [Fo.flat_len]; exact hjk) with h | ⟨nm', bs, a1, a2, a3⟩
          · exact .inl h
          · exact .inr ⟨nm', bs, a1, by rw [hmap1 bs (fun a ha => by have := a3 a ha; omega)]; exact a2, fun a ha => by have := a3 a ha; omega⟩
        · have hj2 : j - k.size < (r.flat (o + 1 + k.size)).length := by rw [Fo.flat_len]; omega
          have hle : k.size ≤ j := Nat.le_of_not_lt hjk
          have e5 : ∀ a b c : Nat, b ≤ c → a + 1 + b + (c - b) = a + (c + 1) := fun a b c h => by omega
          rw [List.getElem_append_right (by rw [Fo.flat_len]; exact hle), hne2 _ (by omega)]
          simp only [Fo.flat_len]
          have := ht2.at_ (j - k.size) hj2
          rw [e5 o k.size j hle] at this
          rcases this with h | ⟨nm', bs, a1, a2, a3⟩
          · exact .inl h
          · exact .inr ⟨nm', bs, a1, by rw [hmap2 bs (fun a ha => by have := a3 a ha; omega)]; exact a2, fun a ha => by have := a3 a ha; omega⟩
    · show (o : Int) :: r.offs (o + 1 + k.size) = _; rw [r1]; rfl
    · show Fo.app nm k r = (tr' o).app2 (ofL (as2.map tr'))
      rw [hmap2 as2 (fun a ha => by have := r3 a ha; omega), ← r2, show tr' o = .app nm k .nil from if_pos rfl]; rfl
    · intro a ha
      rcases List.mem_cons.1 ha with e | e
      · omega
      · have := r3 a e; omega
/-- of a tree: its own place is the first -/
theorem tree_trees {T : Fo} (h1 : T.one) (hw : T.wf) : ∃ tr : Nat → Fo, TreesAt (T.flat 0) 0 T.size tr ∧ tr 0 = T := by
  obtain ⟨tr, h, ks, e, e2, _⟩ := flat_trees T 0 hw
  rw [Nat.zero_add] at h
  refine ⟨tr, h, ?_⟩
  have e3 : T.offs 0 = [(0 : Int)] := by
    rcases Fo.one_cases h1 with ⟨n, rfl⟩ | ⟨nm, K, rfl⟩ <;> rfl
  rw [e3] at e
  have has : ks = [0] := by
    cases ks with
    | nil => simp at e
    | cons a r =>
      simp only [List.map_cons, List.cons.injEq] at e
      cases r with
      | nil => have := e.1; rw [show a = 0 by omega]
      | cons b r => simp at e
  rw [has] at e2
  exact e2.symm ▸ (Fo.app2_nil (tr 0)).symm

/-! ### The first way through the nodes -/
def newApp (t : TN) (k : Nat) : PN := ⟨0, t.name, t.args.length, .slice none 0 0, [], k, k, 0, 0, 0⟩
def newHole (h k : Nat) : PN := ⟨h, ByteArray.empty, 0, .slice none 0 0, [], k, -1, h, 0, 0⟩
structure Lay1 (ts : List TN) (l0 : List PN) (hm0 : List (Nat × Nat)) (i : Nat) (l : List PN) (hm : List (Nat × Nat)) (at_ : List Nat) : Prop where
  alen : at_.length = i
  grow : l0.length ≤ l.length ∧ l.length ≤ l0.length + i
  pre : ∀ k (h : k < l0.length) (h' : k < l.length), l[k] = l0[k]
  hmem : ∀ h k, (h, k) ∈ hm → (h, k) ∈ hm0 ∨ (l0.length ≤ k ∧ ∃ hk : k < l.length, l[k] = newHole h k ∧ 0 < h)
  hold : ∀ p ∈ hm0, p ∈ hm
  uniq : ∀ h k k', (h, k) ∈ hm → (h, k') ∈ hm → k = k'
  holes : ∀ k (hk : k < l.length), l0.length ≤ k → 0 < l[k].hole → (l[k].hole, k) ∈ hm
  hat : ∀ j (h : j < at_.length) (h' : j < ts.length), 0 < ts[j].var → (ts[j].var.toNat, at_[j]) ∈ hm
  aat : ∀ j (h : j < at_.length) (h' : j < ts.length), ts[j].var = 0 → l0.length ≤ at_[j] ∧ ∃ hk : at_[j] < l.length, l[at_[j]] = newApp ts[j] at_[j]
  new : ∀ k (hk : k < l.length), l0.length ≤ k → (∃ h, 0 < h ∧ l[k] = newHole h k) ∨ ∃ j, ∃ h : j < at_.length, ∃ h' : j < ts.length, ts[j].var = 0 ∧ at_[j] = k
  inj : ∀ j j' (h : j < at_.length) (h' : j' < at_.length) (g : j < ts.length) (g' : j' < ts.length), ts[j].var = 0 → ts[j'].var = 0 → at_[j] = at_[j'] → j = j'
  rng : ∀ p ∈ hm, p ∈ hm0 ∨ ∃ t ∈ ts, t.var = (p.1 : Int)
  cnt : hm.length ≤ hm0.length + i
section
variable {ts : List TN} {l0 l : List PN} {hm0 hm : List (Nat × Nat)} {i : Nat} {at_ : List Nat}
theorem Lay1.start (hu : ∀ h k k', (h, k) ∈ hm0 → (h, k') ∈ hm0 → k = k') : Lay1 ts l0 hm0 0 l0 hm0 [] :=
  ⟨rfl, ⟨Nat.le_refl _, Nat.le_refl _⟩, fun _ _ _ => rfl, fun h k h1 => .inl h1, fun _ h => h, hu, fun k hk h => absurd hk (by omega), fun j h => absurd h (by simp), fun j h => absurd h (by simp), fun k hk h => absurd hk (by omega), fun j j' h => absurd h (by simp), fun p h => .inl h, Nat.le_refl _⟩
theorem snoc_cases {α : Type} {a : List α} {x : α} {j : Nat} (h : j < (a ++ [x]).length) : (∃ h' : j < a.length, (a ++ [x])[j] = a[j]) ∨ (j = a.length ∧ (a ++ [x])[j] = x) := by
  by_cases hj : j < a.length
  · exact .inl ⟨hj, List.getElem_append_left hj⟩
  · have e : j = a.length := by simp at h; omega
    subst e
    exact .inr ⟨rfl, by simp⟩
/-- a hole that is there -/
theorem Lay1.old (h : Lay1 ts l0 hm0 i l hm at_) (hi : i < ts.length) {k : Nat} (hv : 0 < ts[i].var) (hk : (ts[i].var.toNat, k) ∈ hm) : Lay1 ts l0 hm0 (i + 1) l hm (at_ ++ [k]) := by
  have ha := h.alen
  refine ⟨by simp [ha], ⟨h.grow.1, by have := h.grow.2; omega⟩, h.pre, h.hmem, h.hold, h.uniq, h.holes, fun j hj hj' hv' => ?_, fun j hj hj' hv' => ?_, fun k' hk' hl => ?_, fun j j' hj hj' g g' e e' e2 => ?_, h.rng, by have := h.cnt; omega⟩
  · rcases snoc_cases hj with ⟨h1, e⟩ | ⟨e1, e⟩
    · rw [e]; exact h.hat j h1 hj' hv'
    · rw [e]; rw [ha] at e1; subst e1; exact hk
  · rcases snoc_cases hj with ⟨h1, e⟩ | ⟨e1, e⟩
    · simp only [e]; exact h.aat j h1 hj' hv'
    · rw [ha] at e1; subst e1; omega
  · rcases h.new k' hk' hl with h1 | ⟨j, j1, j2, j3, j4⟩
    · exact .inl h1
    · exact .inr ⟨j, by simp; omega, j2, j3, by rw [List.getElem_append_left j1]; exact j4⟩
  · rcases snoc_cases hj with ⟨h1, f⟩ | ⟨f1, f⟩
    · rcases snoc_cases hj' with ⟨h1', f'⟩ | ⟨f1', f'⟩
      · rw [f, f'] at e2; exact h.inj j j' h1 h1' g g' e e' e2
      · rw [ha] at f1'; subst f1'; omega
    · rw [ha] at f1; subst f1; omega
/-- a hole that is new -/
theorem Lay1.hole (h : Lay1 ts l0 hm0 i l hm at_) (hi : i < ts.length) (hv : 0 < ts[i].var) (hk : ∀ k, (ts[i].var.toNat, k) ∉ hm) (hbd : ∀ p ∈ hm0, p.2 < l0.length) :
    Lay1 ts l0 hm0 (i + 1) (l ++ [newHole ts[i].var.toNat l.length]) (hm ++ [(ts[i].var.toNat, l.length)]) (at_ ++ [l.length]) := by
  have ha := h.alen
  have hh : 0 < ts[i].var.toNat := by omega
  have hbd2 : ∀ p ∈ hm, p.2 < l.length := fun p hp => by
    rcases h.hmem p.1 p.2 hp with h1 | ⟨_, h1, _⟩
    · have := hbd p h1; have := h.grow.1; omega
    · exact h1
  refine ⟨by simp [ha], ⟨by have := h.grow.1; simp; omega, by have := h.grow.2; simp; omega⟩, fun k h1 h2 => ?_, fun a b hab => ?_, fun p hp => List.mem_append_left _ (h.hold p hp), fun a b b' h1 h2 => ?_, fun k hk' hl hp => ?_, fun j hj hj' hv' => ?_, fun j hj hj' hv' => ?_, fun k' hk' hl => ?_, fun j j' hj hj' g g' e e' e2 => ?_, fun p hp => by
    rcases List.mem_append.1 hp with h1 | h1
    · exact h.rng p h1
    · simp only [List.mem_cons, List.not_mem_nil, or_false] at h1
      subst h1
      exact .inr ⟨ts[i], List.getElem_mem hi, by show ts[i].var = ((ts[i].var.toNat : Nat) : Int); omega⟩, by have := h.cnt; simp; omega⟩
  · have := h.grow.1
    rw [List.getElem_append_left (by omega)]; exact h.pre k h1 (by omega)
  · rcases List.mem_append.1 hab with h1 | h1
    · rcases h.hmem a b h1 with h2 | ⟨h2, h3, h4⟩
      · exact .inl h2
      · exact .inr ⟨h2, by simp; omega, by rw [List.getElem_append_left h3]; exact h4⟩
    · simp only [List.mem_cons, List.not_mem_nil, or_false, Prod.mk.injEq] at h1
      obtain ⟨rfl, rfl⟩ := h1
      exact .inr ⟨h.grow.1, by simp, by simp, hh⟩
  · rcases List.mem_append.1 h1 with h1 | h1 <;> rcases List.mem_append.1 h2 with h2 | h2
    · exact h.uniq a b b' h1 h2
    · simp only [List.mem_cons, List.not_mem_nil, or_false, Prod.mk.injEq] at h2
      obtain ⟨rfl, rfl⟩ := h2; exact absurd h1 (hk b)
    · simp only [List.mem_cons, List.not_mem_nil, or_false, Prod.mk.injEq] at h1
      obtain ⟨rfl, rfl⟩ := h1; exact absurd h2 (hk b')
    · simp only [List.mem_cons, List.not_mem_nil, or_false, Prod.mk.injEq] at h1 h2
      rw [h1.2, h2.2]
  · rcases snoc_cases hk' with ⟨h1, e⟩ | ⟨e1, e⟩
    · rw [e] at hp ⊢; exact List.mem_append_left _ (h.holes k h1 hl hp)
    · rw [e, e1]; exact List.mem_append_right _ (by simp [newHole])
  · rcases snoc_cases hj with ⟨h1, e⟩ | ⟨e1, e⟩
    · rw [e]; exact List.mem_append_left _ (h.hat j h1 hj' hv')
    · rw [e]; rw [ha] at e1; subst e1; exact List.mem_append_right _ (by simp)
  · rcases snoc_cases hj with ⟨h1, e⟩ | ⟨e1, e⟩
    · obtain ⟨a1, a2, a3⟩ := h.aat j h1 hj' hv'
      simp only [e]
      exact ⟨a1, by simp; omega, by rw [List.getElem_append_left a2]; exact a3⟩
    · rw [ha] at e1; subst e1; omega
  · rcases snoc_cases hk' with ⟨h1, e⟩ | ⟨e1, e⟩
    · rw [e]
      rcases h.new k' h1 hl with h2 | ⟨j, j1, j2, j3, j4⟩
      · exact .inl h2
      · exact .inr ⟨j, by simp; omega, j2, j3, by rw [List.getElem_append_left j1]; exact j4⟩
    · rw [e, e1]; exact .inl ⟨_, hh, rfl⟩
  · rcases snoc_cases hj with ⟨h1, f⟩ | ⟨f1, f⟩
    · rcases snoc_cases hj' with ⟨h1', f'⟩ | ⟨f1', f'⟩
      · rw [f, f'] at e2; exact h.inj j j' h1 h1' g g' e e' e2
      · rw [ha] at f1'; subst f1'; omega
    · rw [ha] at f1; subst f1; omega
/-- no hole -/
theorem Lay1.app (h : Lay1 ts l0 hm0 i l hm at_) (hi : i < ts.length) (hv : ts[i].var = 0) : Lay1 ts l0 hm0 (i + 1) (l ++ [newApp ts[i] l.length]) hm (at_ ++ [l.length]) := by
  have ha := h.alen
  refine ⟨by simp [ha], ⟨by have := h.grow.1; simp; omega, by have := h.grow.2; simp; omega⟩, fun k h1 h2 => ?_, fun a b hab => ?_, h.hold, h.uniq, fun k hk' hl hp => ?_, fun j hj hj' hv' => ?_, fun j hj hj' hv' => ?_, fun k' hk' hl => ?_, fun j j' hj hj' g g' e e' e2 => ?_, h.rng, by have := h.cnt; omega⟩
  · have := h.grow.1
    rw [List.getElem_append_left (by omega)]; exact h.pre k h1 (by omega)
  · rcases h.hmem a b hab with h2 | ⟨h2, h3, h4⟩
    · exact .inl h2
    · exact .inr ⟨h2, by simp; omega, by rw [List.getElem_append_left h3]; exact h4⟩
  · rcases snoc_cases hk' with ⟨h1, e⟩ | ⟨e1, e⟩
    · rw [e] at hp ⊢; exact h.holes k h1 hl hp
    · rw [e] at hp; simp [newApp] at hp
  · rcases snoc_cases hj with ⟨h1, e⟩ | ⟨e1, e⟩
    · rw [e]; exact h.hat j h1 hj' hv'
    · rw [ha] at e1; subst e1; omega
  · rcases snoc_cases hj with ⟨h1, e⟩ | ⟨e1, e⟩
    · obtain ⟨a1, a2, a3⟩ := h.aat j h1 hj' hv'
      simp only [e]
      exact ⟨a1, by simp; omega, by rw [List.getElem_append_left a2]; exact a3⟩
    · simp only [e]
      rw [ha] at e1; subst e1
      exact ⟨h.grow.1, by simp, by simp⟩
  · rcases snoc_cases hk' with ⟨h1, e⟩ | ⟨e1, e⟩
    · rw [e]
      rcases h.new k' h1 hl with h2 | ⟨j, j1, j2, j3, j4⟩
      · exact .inl h2
      · exact .inr ⟨j, by simp; omega, j2, j3, by rw [List.getElem_append_left j1]; exact j4⟩
    · exact .inr ⟨i, by simp [ha], hi, hv, by simp [← ha, e1]⟩
  · rcases snoc_cases hj with ⟨h1, f⟩ | ⟨f1, f⟩
    · rcases snoc_cases hj' with ⟨h1', f'⟩ | ⟨f1', f'⟩
      · rw [f, f'] at e2; exact h.inj j j' h1 h1' g g' e e' e2
      · obtain ⟨_, a2, _⟩ := h.aat j h1 g e
        rw [f, f'] at e2; omega
    · rcases snoc_cases hj' with ⟨h1', f'⟩ | ⟨f1', f'⟩
      · obtain ⟨_, a2, _⟩ := h.aat j' h1' g' e'
        rw [f, f'] at e2; omega
      · omega
end
/-! ### The second way: arguments -/
def atArgs (at_ : List Nat) (ks : List Int) : List Nat := ks.map fun a => at_.getD a.toNat 0
structure Lay2 (ts : List TN) (at_ : List Nat) (l : List PN) (i : Nat) (l2 : List PN) : Prop where
  len : l2.length = l.length
  at_ : ∀ k (h : k < l.length) (h' : k < l2.length), (∃ j, ∃ hj : j < at_.length, ∃ hj' : j < ts.length, j < i ∧ ts[j].var = 0 ∧ at_[j] = k ∧ ∃ av, l2[k] = { l[k] with av := av, args := atArgs at_ ts[j].args }) ∨
    ((∀ j (hj : j < at_.length) (hj' : j < ts.length), j < i → ts[j].var = 0 → at_[j] ≠ k) ∧ l2[k] = l[k])
section
variable {ts : List TN} {l l2 : List PN} {i : Nat} {at_ : List Nat}
theorem Lay2.start : Lay2 ts at_ l 0 l := ⟨rfl, fun k h h' => .inr ⟨fun j _ _ hj => by omega, rfl⟩⟩
/-- a hole, or a node without arguments -/
theorem Lay2.skip {l0 : List PN} {hm0 hm : List (Nat × Nat)} (h : Lay2 ts at_ l i l2) (h1 : Lay1 ts l0 hm0 ts.length l hm at_) (hi : i < ts.length) (hv : 0 < ts[i].var ∨ (ts[i].var = 0 ∧ ts[i].args = [])) : Lay2 ts at_ l (i + 1) l2 := by
  refine ⟨h.len, fun k hk hk' => ?_⟩
  rcases h.at_ k hk hk' with ⟨j, a, b, c, d⟩ | ⟨a, b⟩
  · exact .inl ⟨j, a, b, by omega, d⟩
  · by_cases e : ts[i].var = 0 ∧ ∃ hj : i < at_.length, at_[i] = k
    · obtain ⟨e, hj, e2⟩ := e
      rcases hv with hv | ⟨_, hv⟩
      · omega
      · refine .inl ⟨i, hj, hi, by omega, e, e2, l[k].av, ?_⟩
        obtain ⟨_, _, a3⟩ := h1.aat i hj hi e
        rw [b, hv]
        subst e2
        rw [a3]; rfl
    · refine .inr ⟨fun j hj hj' hji hv' e2 => ?_, b⟩
      by_cases hji2 : j < i
      · exact a j hj hj' hji2 hv' e2
      · have : j = i := by omega
        subst this
        exact e ⟨hv', hj, e2⟩
/-- the arguments of a node -/
theorem Lay2.put {l0 : List PN} {hm0 hm : List (Nat × Nat)} (h : Lay2 ts at_ l i l2) (h1 : Lay1 ts l0 hm0 ts.length l hm at_) (hi : i < ts.length) (hv : ts[i].var = 0) (hj : i < at_.length) (hk : at_[i] < l2.length) {x : PN} (hx : ∃ av, x = { l2[at_[i]] with av := av, args := atArgs at_ ts[i].args }) : Lay2 ts at_ l (i + 1) (l2.set at_[i] x) := by
  obtain ⟨av, hx⟩ := hx
  refine ⟨by simp [h.len], fun k hk1 hk' => ?_⟩
  have hk2 : k < l2.length := by simpa using hk'
  by_cases e : at_[i] = k
  · refine .inl ⟨i, hj, hi, by omega, hv, e, av, ?_⟩
    subst e
    rw [List.getElem_set_self, hx]
    rcases h.at_ _ hk1 hk2 with ⟨j, a, b, c, d, d2, d3⟩ | ⟨_, b⟩
    · have := h1.inj j i a hj b hi d hv d2; omega
    · rw [b]
  · rw [List.getElem_set_ne e]
    rcases h.at_ k hk1 hk2 with ⟨j, a, b, c, d⟩ | ⟨a, b⟩
    · exact .inl ⟨j, a, b, by omega, d⟩
    · refine .inr ⟨fun j hj' hj2 hji hv' e2 => ?_, b⟩
      by_cases hji2 : j < i
      · exact a j hj' hj2 hji2 hv' e2
      · have : j = i := by omega
        subst this
        exact e e2
end
/-- the web that holds the new nodes, too -/
structure Grown (W W' : WebT) (r : Nat → Nat) (tm tm' : Nat → Option Nat) (lo lo' : Nat → Nat) : Prop where
  n : W.n ≤ W'.n
  nd : ∀ i, i < W.n → W'.nd i = W.nd i ∧ W'.tr i = W.tr i
  ust : ∀ td E, USt W r tm lo td E → USt W' r tm' lo' td E
section
variable {W : WebT} {r : Nat → Nat} {tm : Nat → Option Nat} {lo : Nat → Nat} {l0 l l2 : List PN} {hm0 hm : List (Nat × Nat)} {ts : List TN} {at_ : List Nat}
theorem USt.grow {W' : WebT} {tm' : Nat → Option Nat} {lo' : Nat → Nat} {td : List (Nat × Nat)} {E : List (Fo × Fo)} (h : USt W r tm lo td E) (hn : W.n ≤ W'.n) (hok : W'.OK) (hnd : ∀ i, i < W.n → W'.nd i = W.nd i ∧ W'.tr i = W.tr i) (hout : ∀ i, W.n ≤ i → r i = i)
    (hhol : ∀ i j x, i < W'.n → j < W'.n → W'.nd i = .hole x → W'.nd j = .hole x → i = j)
    (htm : ∀ c, c < W.n → tm' c = tm c ∧ lo' c = lo c) (hnew : ∀ c, W.n ≤ c → c < W'.n → (∃ nm ks, W'.nd c = .app nm ks ∧ tm' c = some c ∧ lo' c = 0) ∨ (∃ x, 1 ≤ x ∧ W'.nd c = .hole x ∧ tm' c = none ∧ lo' c = x)) : USt W' r tm' lo' td E := by
  have hlt : ∀ i, i < W.n ↔ r i < W.n := fun i => by
    by_cases hi : i < W.n
    · exact ⟨fun _ => h.lt i hi, fun _ => hi⟩
    · rw [hout i (by omega)]
  have hval : ∀ θ i, i < W.n → W'.val θ i = W.val θ i := fun θ i hi => by unfold WebT.val; rw [(hnd i hi).2]
  refine ⟨hok, fun i hi => ?_, fun i hi => ?_, hhol, fun i t hi ht => ?_, fun i hi ht => ?_, fun i hi => ?_, fun i t nm ks nm' ks' hi e ht e' => ?_, fun θ hθ i j hi hj e => ?_, fun p hp => ?_⟩
  · by_cases hi2 : i < W.n
    · have := h.lt i hi2; omega
    · rw [hout i (by omega)]; exact hi
  · by_cases hi2 : i < W.n
    · exact h.idem i hi2
    · rw [hout i (by omega), hout i (by omega)]
  · by_cases hi2 : i < W.n
    · rw [(htm _ (h.lt i hi2)).1] at ht
      obtain ⟨a, b, nm, ks, c⟩ := h.some_ i t hi2 ht
      exact ⟨by omega, b, nm, ks, by rw [(hnd t a).1]; exact c⟩
    · have e := hout i (by omega)
      rw [e] at ht ⊢
      rcases hnew i (by omega) hi with ⟨nm, ks, a, b, _⟩ | ⟨x, _, a, b, _⟩
      · rw [b] at ht; injection ht with ht; subst ht
        exact ⟨hi, e, nm, ks, a⟩
      · rw [b] at ht; cases ht
  · by_cases hi2 : i < W.n
    · rw [(htm _ (h.lt i hi2)).1] at ht
      rw [(hnd i hi2).1]
      exact h.none_ i hi2 ht
    · rw [hout i (by omega)] at ht
      rcases hnew i (by omega) hi with ⟨nm, ks, a, b, _⟩ | ⟨x, _, a, b, _⟩
      · rw [b] at ht; cases ht
      · intro nm ks e; rw [a] at e; cases e
  · by_cases hi2 : i < W.n
    · have h1 := h.low i hi2
      have hc : ∀ j, r j = r i → j < W.n := fun j e => (hlt j).2 (by rw [e]; exact h.lt i hi2)
      unfold Low at h1 ⊢
      rw [(htm _ (h.lt i hi2)).2]
      rcases h1 with ⟨a, b⟩ | ⟨a, ⟨j, b, c, d⟩, e⟩
      · exact .inl ⟨a, fun j x hj hcj => by rw [(hnd j (hc j hcj)).1]; exact b j x (hc j hcj) hcj⟩
      · exact .inr ⟨a, ⟨j, by omega, c, by rw [(hnd j b).1]; exact d⟩, fun j x hj hcj => by rw [(hnd j (hc j hcj)).1]; exact e j x (hc j hcj) hcj⟩
    · have ei := hout i (by omega)
      have hc : ∀ j, j < W'.n → r j = i → j = i := fun j hj e => by
        by_cases hj2 : j < W.n
        · have := h.lt j hj2; omega
        · rw [hout j (by omega)] at e; exact e
      rw [ei]
      unfold Low
      rcases hnew i (by omega) hi with ⟨nm, ks, a, _, b⟩ | ⟨x, x1, a, _, b⟩
      · exact .inl ⟨b, fun j x hj hcj e => by rw [hc j hj hcj, a] at e; cases e⟩
      · refine .inr ⟨by omega, ⟨i, hi, ei, by rw [b]; exact a⟩, fun j y hj hcj e => ?_⟩
        rw [hc j hj hcj, a] at e; injection e with e; omega
  · by_cases hi2 : i < W.n
    · rw [(htm _ (h.lt i hi2)).1] at ht
      obtain ⟨t1, t2, _⟩ := h.some_ i t hi2 ht
      rw [(hnd i hi2).1] at e
      rw [(hnd t t1).1] at e'
      exact h.cong i t nm ks nm' ks' hi2 e ht e'
    · have ei := hout i (by omega)
      rw [ei] at ht
      rcases hnew i (by omega) hi with ⟨nm2, as2, a, b, _⟩ | ⟨x, _, a, b, _⟩
      · rw [b] at ht; injection ht with ht; subst ht
        rw [e] at e'; injection e' with e1 e2
        subst e1; subst e2
        exact ⟨rfl, rfl, fun k x y hx hy => by rw [hx] at hy; injection hy with hy; rw [hy]; exact .cls rfl⟩
      · rw [b] at ht; cases ht
  · by_cases hi2 : i < W.n
    · have hj2 : j < W.n := (hlt j).2 (by rw [← e]; exact h.lt i hi2)
      rw [hval θ i hi2, hval θ j hj2]
      exact h.sound θ hθ i j hi2 hj2 e
    · have hj2 : ¬ j < W.n := fun hj2 => hi2 ((hlt i).2 (by rw [e]; exact h.lt j hj2))
      rw [hout i (by omega), hout j (by omega)] at e
      rw [e]
  · obtain ⟨a, b, c⟩ := h.todo p hp
    exact ⟨by omega, by omega, fun θ hθ => by rw [hval θ _ a, hval θ _ b]; exact c θ hθ⟩
open Classical in
/-- a term is laid -/
theorem lay_grown {T : Fo} (h1 : T.one) (hw : T.wf) (hts : ts = T.flat 0) (hP : PW W r tm lo l0 hm0) (hW : W.OK) (hhol : ∀ i j x, i < W.n → j < W.n → W.nd i = .hole x → W.nd j = .hole x → i = j) (hpos : ∀ t ∈ ts, 0 ≤ t.var)
    (hA : Lay1 ts l0 hm0 ts.length l hm at_) (hB : Lay2 ts at_ l ts.length l2) : ∃ W' tm' lo', Grown W W' r tm tm' lo lo' ∧ PW W' r tm' lo' l2 hm ∧ W'.n = l2.length ∧ l2.length ≤ l0.length + T.size ∧ ∃ h0 : 0 < at_.length, at_[0] < W'.n ∧ W'.tr at_[0] = T := by
  have hlen : ts.length = T.size := by rw [hts, Fo.flat_len]
  have h0 : 0 < at_.length := by rw [hA.alen, hlen]; exact Fo.one_size h1
  obtain ⟨tr, htr, htr0⟩ := tree_trees h1 hw
  rw [← hts] at htr
  have hWn := hP.len
  have hg1 := hA.grow.1
  have hl2 := hB.len
  -- what is at a new place
  have newk : ∀ k (hk : k < l2.length), l0.length ≤ k → (∃ h, 0 < h ∧ l2[k] = newHole h k ∧ (h, k) ∈ hm ∧ ∀ j (hj : j < at_.length) (hj' : j < ts.length), ts[j].var = 0 → at_[j] ≠ k) ∨ ∃ j, ∃ hj : j < at_.length, ∃ hj' : j < ts.length, ts[j].var = 0 ∧ at_[j] = k ∧ ∃ av, l2[k] = { newApp ts[j] k with av := av, args := atArgs at_ ts[j].args } := by
    intro k hk hl
    rcases hB.at_ k (by omega) hk with ⟨j, a, b, c, d, e, av, f⟩ | ⟨a, b⟩
    · refine .inr ⟨j, a, b, d, e, av, ?_⟩
      obtain ⟨_, g1, g2⟩ := hA.aat j a b d
      subst e
      rw [f, g2]
    · rcases hA.new k (by omega) hl with ⟨h, c, d⟩ | ⟨j, j1, j2, j3, j4⟩
      · refine .inl ⟨h, c, by rw [b]; exact d, ?_, fun j hj hj' hv => a j hj hj' hj' hv⟩
        have := hA.holes k (by omega) hl (by rw [d]; exact c)
        rw [d] at this; exact this
      · exact absurd j4 (a j j1 j2 j2 j3)
  have oldk : ∀ k (hk : k < l2.length) (hk0 : k < l0.length), l2[k] = l0[k] := by
    intro k hk hk0
    rcases hB.at_ k (by omega) hk with ⟨j, a, b, c, d, e, _⟩ | ⟨a, b⟩
    · have := (hA.aat j a b d).1; omega
    · rw [b]; exact hA.pre k hk0 (by omega)
  let isA : Nat → Prop := fun k => ∃ j, ∃ hj : j < at_.length, ∃ hj' : j < ts.length, ts[j].var = 0 ∧ at_[j] = k
  let tr' : Nat → Fo := fun k => if k < l0.length then W.tr k else if h : isA k then tr h.choose else .hole ((l2[k]?.map PN.hole).getD 0) .nil
  have tr_old : ∀ k, k < l0.length → tr' k = W.tr k := fun k hk => if_pos hk
  have tr_app : ∀ j (hj : j < at_.length) (hj' : j < ts.length), ts[j].var = 0 → tr' at_[j] = tr j := by
    intro j hj hj' hv
    have hi : isA at_[j] := ⟨j, hj, hj', hv, rfl⟩
    have h2 := hi.choose_spec
    obtain ⟨a, b, c, d⟩ := h2
    have : hi.choose = j := hA.inj _ _ a hj b hj' c hv d
    show (if at_[j] < l0.length then _ else _) = _
    rw [if_neg (by have := (hA.aat j hj hj' hv).1; omega), dif_pos hi, this]
  have tr_hole : ∀ h k, (h, k) ∈ hm → k < l2.length ∧ tr' k = .hole h .nil ∧ 1 ≤ h := by
    intro h k hk
    rcases hA.hmem h k hk with h2 | ⟨h2, h3, h4, h5⟩
    · obtain ⟨a, b⟩ := (hP.holes h k).1 h2
      obtain ⟨c, d⟩ := hW.hole k h a b
      exact ⟨by omega, by rw [tr_old k (by omega)]; exact d, c⟩
    · have hk2 : k < l2.length := by omega
      refine ⟨hk2, ?_, h5⟩
      have hna : ¬ isA k := by
        rintro ⟨j, a, b, c, d⟩
        obtain ⟨_, f1, f2⟩ := hA.aat j a b c
        subst d
        rw [h4] at f2
        have := congrArg PN.hole f2
        simp [newHole, newApp] at this
        omega
      show (if k < l0.length then _ else _) = _
      rw [if_neg (by omega), dif_neg hna]
      rcases newk k hk2 (by omega) with ⟨h', a, b, c, _⟩ | ⟨j, a, b, c, d, _⟩
      · rcases hB.at_ k h3 hk2 with ⟨j, a', b', c', d', e', _⟩ | ⟨_, b'⟩
        · exact absurd ⟨j, a', b', d', e'⟩ hna
        · rw [List.getElem?_eq_getElem hk2, b', h4]; rfl
      · exact absurd ⟨j, a, b, c, d⟩ hna
  have tr_at : ∀ j (hj : j < at_.length), at_[j] < l2.length ∧ tr' at_[j] = tr j := by
    intro j hj
    have hj' : j < ts.length := by rw [hA.alen] at hj; exact hj
    have hp := hpos ts[j] (List.getElem_mem hj')
    by_cases hv : ts[j].var = 0
    · obtain ⟨_, a, _⟩ := hA.aat j hj hj' hv
      exact ⟨by omega, tr_app j hj hj' hv⟩
    · have hm1 := hA.hat j hj hj' (by omega)
      obtain ⟨a, b, _⟩ := tr_hole _ _ hm1
      refine ⟨a, ?_⟩
      rw [b]
      rcases htr.at_ j hj' with ⟨n, _, e, e2⟩ | ⟨nm, ks, e, _⟩
      · rw [Nat.zero_add] at e2; rw [e2, e]; rfl
      · rw [e] at hv; exact absurd rfl hv
  let W' : WebT := ⟨l2.length, fun k => ((l2[k]?).map ndOf).getD (.hole 0), tr'⟩
  have nd' : ∀ k (hk : k < l2.length), W'.nd k = ndOf l2[k] := fun k hk => by show ((l2[k]?).map ndOf).getD _ = _; rw [List.getElem?_eq_getElem hk]; rfl
  have ndold : ∀ k, k < W.n → W'.nd k = W.nd k ∧ W'.tr k = W.tr k := fun k hk => ⟨by rw [nd' k (by omega), oldk k (by omega) (by omega), hP.nd k (by omega)], tr_old k (by omega)⟩
  have hok : W'.OK := by
    refine ⟨fun k h hk e => ?_, fun k nm ks hk e => ?_⟩
    · by_cases hk0 : k < W.n
      · rw [(ndold k hk0).1] at e
        rw [(ndold k hk0).2]; exact hW.hole k h hk0 e
      · have hk : k < l2.length := hk
        rw [nd' k hk] at e
        rcases newk k hk (by omega) with ⟨h', a, b, c, _⟩ | ⟨j, a, b, c, d, av, f⟩
        · rw [b] at e
          unfold ndOf at e
          rw [if_neg (show ¬ (newHole h' k).hole = 0 by show ¬ h' = 0; omega)] at e
          injection e with e
          have e : h' = h := e
          subst e
          exact ⟨a, (tr_hole _ _ c).2.1⟩
        · rw [f] at e; unfold ndOf at e; rw [if_pos (show (newApp ts[j] k).hole = 0 from rfl)] at e; cases e
    · by_cases hk0 : k < W.n
      · rw [(ndold k hk0).1] at e
        obtain ⟨a, b⟩ := hW.app k nm ks hk0 e
        refine ⟨fun x hx => by have := a x hx; show x < l2.length; omega, ?_⟩
        rw [(ndold k hk0).2, b]
        have : ks.map W'.tr = ks.map W.tr := List.map_congr_left fun x hx => (ndold x (a x hx)).2
        rw [this]
      · have hk : k < l2.length := hk
        rw [nd' k hk] at e
        rcases newk k hk (by omega) with ⟨h', a, b, c, _⟩ | ⟨j, a, b, c, d, av, f⟩
        · rw [b] at e
          unfold ndOf at e
          rw [if_neg (show ¬ (newHole h' k).hole = 0 by show ¬ h' = 0; omega)] at e
          cases e
        · rw [f] at e; unfold ndOf at e; rw [if_pos (show (newApp ts[j] k).hole = 0 from rfl)] at e
          injection e with e1 e2
          have e1 : ts[j].name = nm := e1
          have e2 : atArgs at_ ts[j].args = ks := e2
          rcases htr.at_ j b with ⟨n, n1, g, _⟩ | ⟨nm', ks', g1, g2, g3⟩
          · rw [g] at c
            have c : (n : Int) = 0 := c
            omega
          · rw [Nat.zero_add] at g2 g3
            have hin : ∀ a ∈ ks', ∃ ha : a < at_.length, at_.getD a 0 = at_[a] := fun a ha => by
              have := (g3 a ha).2
              have hlt : a < at_.length := by rw [hA.alen, hlen]; exact this
              exact ⟨hlt, by simp [List.getD_eq_getElem?_getD, List.getElem?_eq_getElem hlt]⟩
            have has : ks = ks'.map fun a => at_.getD a 0 := by
              rw [← e2, g1]
              unfold atArgs
              rw [List.map_map]
              exact List.map_congr_left fun a _ => rfl
            refine ⟨fun x hx => ?_, ?_⟩
            · rw [has] at hx
              obtain ⟨a, ha, rfl⟩ := List.mem_map.1 hx
              obtain ⟨p, q⟩ := hin a ha
              rw [q]; exact (tr_at a p).1
            · have hk2 : tr' k = tr j := by rw [← d]; exact (tr_at j a).2
              show tr' k = _
              rw [hk2, g2]
              have hnm : nm' = nm := by rw [← e1, g1]
              rw [hnm, has, List.map_map]
              have : ks'.map tr = ks'.map (W'.tr ∘ fun a => at_.getD a 0) := List.map_congr_left fun a ha => by
                obtain ⟨p, q⟩ := hin a ha
                show tr a = tr' (at_.getD a 0)
                rw [q]; exact (tr_at a p).2.symm
              rw [this]
  have holes' : ∀ h k, (h, k) ∈ hm ↔ k < W'.n ∧ W'.nd k = .hole h := by
    intro h k
    constructor
    · intro hk
      obtain ⟨a, b, c⟩ := tr_hole h k hk
      refine ⟨a, ?_⟩
      rcases hA.hmem h k hk with h2 | ⟨h2, h3, h4, h5⟩
      · obtain ⟨x, y⟩ := (hP.holes h k).1 h2
        rw [(ndold k x).1]; exact y
      · rw [nd' k a]
        rcases hB.at_ k h3 a with ⟨j, a', b', c', d', e', _⟩ | ⟨_, b'⟩
        · exfalso
          obtain ⟨_, f1, f2⟩ := hA.aat j a' b' d'
          subst e'
          rw [h4] at f2
          have := congrArg PN.hole f2
          simp [newHole, newApp] at this
          omega
        · rw [b', h4]; exact if_neg (show ¬ h = 0 by omega)
    · rintro ⟨a, b⟩
      by_cases hk0 : k < W.n
      · rw [(ndold k hk0).1] at b
        exact hA.hold _ ((hP.holes h k).2 ⟨hk0, b⟩)
      · have a : k < l2.length := a
        rw [nd' k a] at b
        rcases newk k a (by omega) with ⟨h', c, d, e, _⟩ | ⟨j, c, d, e, f, av, g⟩
        · rw [d] at b
          unfold ndOf at b
          rw [if_neg (show ¬ (newHole h' k).hole = 0 by show ¬ h' = 0; omega)] at b
          injection b with b
          have b : h' = h := b
          rw [← b]; exact e
        · rw [g] at b; unfold ndOf at b; rw [if_pos (show (newApp ts[j] k).hole = 0 from rfl)] at b; cases b
  let tm' : Nat → Option Nat := fun c => if c < l0.length then tm c else match W'.nd c with | .app _ _ => some c | .hole _ => none
  let lo' : Nat → Nat := fun c => if c < l0.length then lo c else match W'.nd c with | .app _ _ => 0 | .hole x => x
  have htm : ∀ c, c < W.n → tm' c = tm c ∧ lo' c = lo c := fun c hc => ⟨if_pos (by omega), if_pos (by omega)⟩
  have hnew : ∀ c, W.n ≤ c → c < W'.n → (∃ nm ks, W'.nd c = .app nm ks ∧ tm' c = some c ∧ lo' c = 0) ∨ (∃ x, 1 ≤ x ∧ W'.nd c = .hole x ∧ tm' c = none ∧ lo' c = x) := by
    intro c hc hc'
    have e1 : tm' c = match W'.nd c with | .app _ _ => some c | .hole _ => none := if_neg (by omega)
    have e2 : lo' c = match W'.nd c with | .app _ _ => 0 | .hole x => x := if_neg (by omega)
    cases e : W'.nd c with
    | app nm ks => rw [e] at e1 e2; exact .inl ⟨nm, ks, rfl, e1, e2⟩
    | hole x => rw [e] at e1 e2; exact .inr ⟨x, (hok.hole c x hc' e).1, rfl, e1, e2⟩
  have hhol' : ∀ i j x, i < W'.n → j < W'.n → W'.nd i = .hole x → W'.nd j = .hole x → i = j := fun i j x hi hj e e' => hA.uniq x i j ((holes' x i).2 ⟨hi, e⟩) ((holes' x j).2 ⟨hj, e'⟩)
  refine ⟨W', tm', lo', ⟨by show W.n ≤ l2.length; omega, ndold, fun td E hu => hu.grow (by show W.n ≤ l2.length; omega) hok ndold (fun i hi => hP.out i (by omega)) hhol' htm hnew⟩, ?_, rfl, by have := hA.grow.2; omega, h0, (tr_at 0 h0).1, by show tr' _ = _; rw [(tr_at 0 h0).2, htr0]⟩
  obtain ⟨d, hd⟩ := hP.uf
  have upn : ∀ k (hk : k < l2.length), l0.length ≤ k → l2[k].up = k ∧ l2[k].term = tmV (tm' k) ∧ l2[k].low = lo' k := by
    intro k hk hl
    have e1 : tm' k = match W'.nd k with | .app _ _ => some k | .hole _ => none := if_neg (by omega)
    have e2 : lo' k = match W'.nd k with | .app _ _ => 0 | .hole x => x := if_neg (by omega)
    rw [nd' k hk] at e1 e2
    rcases newk k hk hl with ⟨h', a, b, c, _⟩ | ⟨j, a, b, c, d, av, f⟩
    · rw [b] at e1 e2 ⊢
      have : ndOf (newHole h' k) = .hole h' := if_neg (show ¬ h' = 0 by omega)
      rw [this] at e1 e2
      exact ⟨rfl, by rw [e1]; rfl, by rw [e2]; rfl⟩
    · have : ndOf l2[k] = .app ts[j].name (atArgs at_ ts[j].args) := by rw [f]; exact if_pos rfl
      rw [this] at e1 e2
      rw [e1, e2, f]
      exact ⟨rfl, rfl, rfl⟩
  have hgrow : ∀ m, l0.length + m ≤ l2.length → UF d (l0.length + m) (upOf l2) r := by
    intro m
    induction m with
    | zero =>
      intro hm'
      have hup : ∀ j, j < l0.length → upOf l2 j = upOf l0 j := fun j hj => by rw [upOf_at (show j < l2.length by omega), upOf_at hj, oldk j (by omega) hj]
      exact ⟨fun i hi => by rw [hup i hi]; exact hd.lt i hi, fun i hi => by rw [hup i hi]; exact hd.cls i hi, fun i hi => by rw [hup _ (hd.rlt i hi)]; exact hd.top i hi, hd.rlt, fun i hi e => by rw [hup i hi] at e; exact hd.root i hi e, fun i hi e => by rw [hup i hi] at e ⊢; exact hd.rank i hi e⟩
    | succ m ih =>
      intro hm'
      have hk : l0.length + m < l2.length := by omega
      exact (ih (by omega)).grow (by rw [upOf_at hk]; exact (upn _ hk (by omega)).1) (fun _ _ => rfl) (hP.out _ (by omega)) (fun _ _ => rfl)
  refine ⟨rfl, nd', fun k hk => ?_, ⟨d, by have := hgrow (l2.length - l0.length) (by omega); rwa [show l0.length + (l2.length - l0.length) = l2.length by omega] at this⟩, fun i hi => hP.out i (by omega), fun k hk hr => ?_, fun k hk hr => ?_, holes'⟩
  · by_cases hk0 : k < l0.length
    · rw [oldk k hk hk0]; exact hP.na k hk0
    · rcases newk k hk (by omega) with ⟨h', a, b, c, _⟩ | ⟨j, a, b, c, d, av, f⟩
      · rw [b]; rfl
      · rw [f]; show ts[j].args.length = (atArgs at_ ts[j].args).length; unfold atArgs; rw [List.length_map]
  · by_cases hk0 : k < l0.length
    · rw [oldk k hk hk0, (htm k (by omega)).1]; exact hP.term k hk0 hr
    · exact (upn k hk (by omega)).2.1
  · by_cases hk0 : k < l0.length
    · rw [oldk k hk hk0, (htm k (by omega)).2]; exact hP.low k hk0 hr
    · exact (upn k hk (by omega)).2.2
end
end Go.Proofs.YtgcbnndbeoekgaaDoor
