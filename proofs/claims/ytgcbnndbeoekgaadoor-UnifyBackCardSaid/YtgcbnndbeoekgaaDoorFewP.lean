import Derived.Test.YtgcbnndbeoekgaaDoorWide
import Derived.Test.YtgcbnndbeoekgaaDoorUSolve
set_option linter.unusedSimpArgs false
set_option linter.unusedVariables false
section
/- how many nodes the terms of some pairs have: the law's of -/
namespace Go.Proofs.YtgcbnndbeoekgaaDoor
open Go Go.RowKit

theorem LenRow.none (w : World) (base : Nat) : LenRow w base (.slice none 0 0) [] := ⟨[], World.ownsRow_nil _ _ _ _, .nil⟩
def pairLens (ps : List (List TN × List TN)) (i : Nat) : List Nat := (ps.take i).flatMap fun p => [p.1.length, p.2.length]
end Go.Proofs.YtgcbnndbeoekgaaDoor
end
section
/- a bound that comes of few nodes is short: in plain Lean -/
namespace Go.Proofs.YtgcbnndbeoekgaaDoor
open Go Go.RowKit

def Fo.holes : Fo → List Nat
  | .nil => []
  | .hole n r => n :: r.holes
  | .app _ k r => k.holes ++ r.holes
theorem holes_mem : ∀ {F : Fo} {m : Nat}, F.has m → m ∈ F.holes
  | .nil, _, h => h.elim
  | .hole n r, m, h => by
    rcases h with h | h
    · subst h; exact List.mem_cons_self ..
    · exact List.mem_cons_of_mem _ (holes_mem h)
  | .app _ k r, m, h => h.elim (fun h => List.mem_append_left _ (holes_mem h)) (fun h => List.mem_append_right _ (holes_mem h))
theorem holes_len : ∀ F : Fo, F.holes.length ≤ F.size
  | .nil => Nat.le_refl _
  | .hole n r => by show r.holes.length + 1 ≤ 1 + r.size; have := holes_len r; omega
  | .app _ k r => by show (k.holes ++ r.holes).length ≤ 1 + k.size + r.size; rw [List.length_append]; have := holes_len k; have := holes_len r; omega
theorem few_of : ∀ {l m : List Nat}, l.Nodup → (∀ x ∈ l, x ∈ m) → l.length ≤ m.length
  | [], _, _, _ => Nat.zero_le _
  | x :: l, m, hn, h => by
    obtain ⟨h1, h2⟩ := List.nodup_cons.1 hn
    have hx := h x (List.mem_cons_self ..)
    have := few_of (l := l) (m := m.erase x) h2 fun y hy => (List.mem_erase_of_ne (fun e => h1 (by rw [← e]; exact hy))).2 (h y (List.mem_cons_of_mem _ hy))
    rw [List.length_erase_of_mem hx] at this
    have h3 := List.length_pos_of_mem hx
    show l.length + 1 ≤ _
    omega
def holesE (E : List (Fo × Fo)) : List Nat := E.flatMap fun p => p.1.holes ++ p.2.holes
theorem ok_has {E : List (Fo × Fo)} {bs : List (Nat × Fo)} (h : Comes E (.ok bs)) : ∀ p ∈ bs, p.1 ∈ holesE E := by
  obtain ⟨hn, hs, _⟩ := h
  have h0 : Sat (valB bs) E := (hs _).2 (valB_sat hn)
  have hb0 := valB_sat hn
  let H : Nat → Prop := fun m => ∃ q ∈ E, q.1.has m ∨ q.2.has m
  have chg : ∀ (m : Nat) (U : IT), ¬ H m → SatB (fun n => if n = m then U else valB bs n) bs := fun m U hm => by
    refine (hs _).1 fun q hq => ?_
    have e : ∀ K : Fo, ¬ K.has m → ev (fun n => if n = m then U else valB bs n) K = ev (valB bs) K := fun K hK => evF_congr K 0 fun n hn => if_neg (fun e => hK (by rw [← e]; exact hn))
    rw [e _ (fun h => hm ⟨q, hq, .inl h⟩), e _ (fun h => hm ⟨q, hq, .inr h⟩)]
    exact h0 q hq
  intro p hp
  have hpp := hb0 p hp
  have hfree := hn.free p hp p hp
  refine Classical.byContradiction fun hno => ?_
  have hm : ¬ H p.1 := fun ⟨q, hq, h⟩ => hno (List.mem_flatMap.2 ⟨q, hq, List.mem_append.2 (h.imp holes_mem holes_mem)⟩)
  have key : ∀ U : IT, U = valB bs p.1 := fun U => by
    have h1 := chg p.1 U hm p hp
    have h1 : (if p.1 = p.1 then U else valB bs p.1) = ev (fun n => if n = p.1 then U else valB bs n) p.2 := h1
    rw [if_pos rfl] at h1
    have e : ev (fun n => if n = p.1 then U else valB bs n) p.2 = ev (valB bs) p.2 := evF_congr p.2 0 fun n hn => if_neg (fun e => hfree (by rw [← e]; exact hn))
    rw [h1, e, ← hpp]
  have := (key (leaf 0)).trans (key (leaf 1)).symm
  exact absurd (leaf_inj this) (by omega)
theorem ok_few {E : List (Fo × Fo)} {bs : List (Nat × Fo)} (h : Comes E (.ok bs)) : bs.length ≤ (holesE E).length := by
  have h1 := few_of (l := bs.map (·.1)) (m := holesE E) ?_ ?_
  · simpa using h1
  · have h2 : (bs.map (·.1)).Pairwise (· < ·) := List.pairwise_map.2 h.1.rise
    exact h2.imp fun h => Nat.ne_of_lt h
  · intro x hx
    obtain ⟨p, hp, rfl⟩ := List.mem_map.1 hx
    exact ok_has h p hp
theorem holesE_len : ∀ {l : List (List TN × List TN)}, (∀ p ∈ l, rightI p.1 = 0 ∧ rightI p.2 = 0) → (holesE (l.map fun p => (treeOf p.1, treeOf p.2))).length ≤ (l.flatMap fun p => [p.1.length, p.2.length]).sum
  | [], _ => Nat.le_refl _
  | p :: r, h => by
    have ih := holesE_len (l := r) fun q hq => h q (List.mem_cons_of_mem _ hq)
    obtain ⟨r1, r2⟩ := h p (List.mem_cons_self ..)
    have a1 := holes_len (treeOf p.1)
    have a2 := holes_len (treeOf p.2)
    have b1 : p.1.length = (treeOf p.1).size := by have := congrArg List.length (treeOf_ok r1).2.2.1; rw [Fo.flat_len] at this; exact this
    have b2 : p.2.length = (treeOf p.2).size := by have := congrArg List.length (treeOf_ok r2).2.2.1; rw [Fo.flat_len] at this; exact this
    unfold holesE at ih ⊢
    rw [List.map_cons, List.flatMap_cons, List.flatMap_cons, List.length_append, List.length_append, List.sum_append]
    simp only [List.sum_cons, List.sum_nil]
    omega
theorem sum_take_le {ns : List Nat} : ∀ {l m : List (List TN × List TN)}, (l ++ m).flatMap (fun p => [p.1.length, p.2.length]) = ns → (l.flatMap fun p => [p.1.length, p.2.length]).sum ≤ ns.sum := fun {l m} h => by
  rw [← h, List.flatMap_append, List.sum_append]; omega
section
variable {ps : List (List TN × List TN)} {k : Nat} {out : List ABind}
theorem SolvedTo.few (h : SolvedTo ps k out) : out.length ≤ (pairLens ps ps.length).sum := by
  obtain ⟨bs, h1, h2⟩ := h.out
  have h3 := ok_few h1
  have h4 : (holesE (eqsP ps k)).length ≤ ((ps.take k).flatMap fun p => [p.1.length, p.2.length]).sum := holesE_len fun p hp => by
    obtain ⟨i, hi, rfl⟩ := List.getElem_of_mem hp
    rw [List.length_take] at hi
    rw [List.getElem_take]
    exact h.right i (by omega) (by omega)
  have h5 := sum_take_le (l := ps.take k) (m := ps.drop k) rfl
  rw [List.take_append_drop] at h5
  rw [h2, List.length_map]
  unfold pairLens
  rw [List.take_length]
  omega
theorem SolvedTo.none (h : SolvedTo ps k out) (h0 : ∀ hp : 0 < ps.length, ps[0].1.length = 0) (hp : 0 < ps.length) (hk : k ≤ ps.length) : k = 0 ∧ out = [] := by
  have e : k = 0 := by
    refine Classical.byContradiction fun hne => ?_
    have h1 := (h.right 0 hp (by omega)).1
    have h2 := treeOf_ok h1
    have h3 := congrArg List.length h2.2.2.1
    rw [Fo.flat_len, h0 hp] at h3
    have := Fo.one_size h2.1
    omega
  subst e
  exact ⟨rfl, h.same SolvedTo.start⟩
/-- what the law asks before it tries -/
def Tried (ps : List (List TN × List TN)) : Prop := ps.length ≤ 4096 → (pairLens ps 1000).sum ≤ 400 ∧ (ps.length ≤ 100 ∨ ∀ hp : 0 < ps.length, ps[0].1.length = 0)
theorem Tried.few (ht : Tried ps) (h4 : ps.length ≤ 4096) (k : Nat) (out : List ABind) (h : SolvedTo ps k out) : out.length ≤ 2000 := by
  obtain ⟨h1, h2⟩ := ht h4
  by_cases h100 : ps.length ≤ 100
  · have h3 := h.few
    have e : pairLens ps ps.length = pairLens ps 1000 := by unfold pairLens; rw [List.take_of_length_le (Nat.le_refl _), List.take_of_length_le (by omega)]
    rw [e] at h3
    omega
  · have h2 := h2.resolve_left h100
    have hk : SolvedTo ps (min k ps.length) out := by
      by_cases hkl : k ≤ ps.length
      · rw [Nat.min_eq_left hkl]; exact h
      · obtain ⟨a, b, c⟩ := h
        rw [Nat.min_eq_right (by omega)]
        refine ⟨fun i hi hik => a i hi (by omega), fun i hi => b i (by omega), ?_⟩
        have e : eqsP ps ps.length = eqsP ps k := by unfold eqsP; rw [List.take_of_length_le (Nat.le_refl _), List.take_of_length_le (by omega)]
        rw [e]; exact c
    rw [(hk.none h2 (by omega) (Nat.min_le_right _ _)).2]
    exact Nat.zero_le _
end
end Go.Proofs.YtgcbnndbeoekgaaDoor
end
