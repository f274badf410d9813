import Derived.Test.YtgcbnndbeoekgaaDoorWide
import Derived.Test.YtgcbnndbeoekgaaDoorUSolve
set_option linter.unusedSimpArgs false
set_option linter.unusedVariables false
section
/- how many nodes the terms of some pairs have: the law's of -/
namespace Go.Proofs.YtgcbnndbeoekgaaDoor
open Go Go.RowKit

theorem LenRow.none (w : World) (base : Nat) : LenRow w base (.slice none 0 0) [] := ⟨[], World.ownsRow_nil _ _ _ _, .nil⟩
def pairLens (ps : List (List TN × List TN)) (i : Nat) : List Nat := (ps.take i).flatMap fun p => [p.1.length, p.2.length]
theorem pairLens_next {ps : List (List TN × List TN)} {i : Nat} (h : i < ps.length) : pairLens ps (i + 1) = pairLens ps i ++ [ps[i].1.length, ps[i].2.length] := by
  unfold pairLens
  rw [List.take_succ_eq_append_getElem h, List.flatMap_append]; simp
theorem pairLens_len (ps : List (List TN × List TN)) (i : Nat) : (pairLens ps i).length ≤ 2 * i := by
  unfold pairLens
  have key : ∀ l : List (List TN × List TN), (l.flatMap fun x => [x.1.length, x.2.length]).length = 2 * l.length := by
    intro l
    induction l with
    | nil => rfl
    | cons x r ih => rw [List.flatMap_cons, List.length_append, ih]; simp; omega
  rw [key, List.length_take]; omega
theorem pairLens_end {ps : List (List TN × List TN)} {i : Nat} (hi : i ≤ 1000) (h : ¬ i < ps.length ∨ ¬ i < 1000) : pairLens ps i = pairLens ps 1000 := by
  unfold pairLens
  rcases h with h | h
  · rw [List.take_of_length_le (by omega), List.take_of_length_le (by omega)]
  · rw [show i = 1000 by omega]

set_option maxRecDepth 100000 in
set_option maxHeartbeats 4000000 in
theorem of_any (A : Option Addr) (c : Nat) (ps : List (List TN × List TN)) (w : World) (F : Nat → Prop) (hF : ∀ b, F b → b < w.heap.size) (hr : RowOf 2 EPair w F A ps) (hlc : ps.length ≤ c) (hc : c ≤ maxLen) :
    Calls Tryd.prog 17 #[.slice A ps.length c] w fun e w' => ∃ v, e = .returned v ∧ LenRow w' w.heap.size v (pairLens ps 1000) ∧ Below w.heap.size w w' := by
  have HR := Lib.hid hr
  unfold maxLen at hc
  obtain ⟨n, hn⟩ : ∃ q, ps.length = q := ⟨_, rfl⟩
  have HN := Lib.hid hn
  rw [hn] at hlc ⊢
  clear hr hn
  go_enter Tryd.func17, Tryd.ntmps17
  go_upto_region 3 with fail
  go_loopg [3, 4] n (fun g s3 s4 wx => ∃ i : Nat, s4 = .int .i64 i ∧ g = n - i ∧ i ≤ n ∧ i ≤ 1000 ∧ LenRow wx w.heap.size s3 (pairLens ps i) ∧ Below w.heap.size w wx)
  case atStart => exact ⟨0, rfl, rfl, Nat.zero_le _, by omega, LenRow.none _ _, Below.refl _ _⟩
  case round =>
    obtain ⟨i, rfl, rfl, hi, hi2, hown, hb⟩ := hrel
    have HB := Lib.hid hb; have HO := Lib.hid hown
    obtain ⟨Av, cv, rfl⟩ := hown.shape
    have hll := pairLens_len ps i
    have hsz := hb.size
    obtain ⟨vl, hvl⟩ : ∃ q, (pairLens ps i).length = q := ⟨_, rfl⟩
    have HVL := Lib.hid hvl
    rw [hvl] at HO hll ⊢
    clear hown hvl
    have i0 : (0 : Int) ≤ i := by omega
    by_cases hlt : i < n
    · by_cases h1000 : i < 1000
      · have hlt' : (i : Int) < n := by omega
        have h1000' : (i : Int) < 1000 := by omega
        have HIP : Hid (i < ps.length) := Lib.hid (by rw [HN.out]; exact hlt)
        obtain ⟨b, off, S1, k1, S2, k2, rfl, hbF, d0, d1, x1, x2⟩ := pair_at HR.out HIP.out
        have hbw := hF b hbF
        have HNEW : Hid (pairLens ps (i + 1) = pairLens ps i ++ [(ps[i]'HIP.out).1.length, (ps[i]'HIP.out).2.length]) := Lib.hid (pairLens_next HIP.out)
        have HD : Hid (∀ w', Below w.heap.size w w' → w'.cell? ⟨b, off + i * 2, none⟩ = some (.slice S1 (ps[i]'HIP.out).1.length k1) ∧ w'.cell? ⟨b, off + i * 2 + 1, none⟩ = some (.slice S2 (ps[i]'HIP.out).2.length k2) ∧ True) := Lib.hid (fun w' hb' => ⟨(hb'.cell (p := ⟨b, off + i * 2, none⟩) hbw).trans d0, (hb'.cell (p := ⟨b, off + i * 2 + 1, none⟩) hbw).trans d1, trivial⟩)
        obtain ⟨t1, ht1⟩ : ∃ q, (ps[i]'HIP.out).1.length = q := ⟨_, rfl⟩
        obtain ⟨t2, ht2⟩ : ∃ q, (ps[i]'HIP.out).2.length = q := ⟨_, rfl⟩
        rw [ht1, ht2] at HD HNEW
        clear ht1 ht2 d0 d1 hb x1 x2
        go_upto_region 5 with fail
        obtain ⟨u, hu⟩ : ∃ u : World, wr.drew = u := ⟨_, rfl⟩
        have hbu : Below wr.heap.size wr u := by rw [← hu]; exact (Below.refl _ _).drew
        have HBU := Lib.hid (HB.out.trans (hbu.mono HB.out.size))
        have HOU := Lib.hid (HO.out.below hbu)
        clear hbu
        refine wp_region_Y (S := (fun w' : World => w'.cell? ⟨b, off + i * 2, none⟩ = some (.slice S1 t1 k1) ∧ w'.cell? ⟨b, off + i * 2 + 1, none⟩ = some (.slice S2 t2 k2) ∧ True)) 13 (by kernel_rfl) (by rw [hu]; exact HD.out _ HBU.out) (fun hHeld => ?_)
        rw [hu] at hHeld ⊢
        clear hu
        refine wpAnyY_take (i := 0) (v := ?_) rfl (by kernel_rfl) (by kernel_rfl) (by kernel_rfl) (by kernel_rfl) (fun _ _ _ h => h) (Or.inl ⟨by rfl, ?_⟩) (by assumption) ?_
        rotate_left 1
        · (intro w' hSw; obtain ⟨s0, s1, s2⟩ := hSw; go_simp); try with_reducible rfl
        try simp only [Act.put, List.setIfInBounds_toArray, List.set_cons_zero, List.set_cons_succ, Nat.zero_add]
        refine wpAnyY_take (i := 1) (v := ?_) rfl (by kernel_rfl) (by kernel_rfl) (by kernel_rfl) (by kernel_rfl) (fun _ _ _ h => h) (Or.inl ⟨by rfl, ?_⟩) (by assumption) ?_
        rotate_left 1
        · (intro w' hSw; obtain ⟨s0, s1, s2⟩ := hSw; go_simp); try with_reducible rfl
        try simp only [Act.put, List.setIfInBounds_toArray, List.set_cons_zero, List.set_cons_succ, Nat.zero_add]
        refine wpAnyY_take (i := 2) (v := ?_) rfl (by kernel_rfl) (by kernel_rfl) (by kernel_rfl) (by kernel_rfl) (fun _ _ _ h => h) (Or.inl ⟨by rfl, ?_⟩) (by assumption) ?_
        rotate_left 1
        · (intro w' hSw; obtain ⟨s0, s1, s2⟩ := hSw; go_simp); try with_reducible rfl
        try simp only [Act.put, List.setIfInBounds_toArray, List.set_cons_zero, List.set_cons_succ, Nat.zero_add]
        refine wpAnyY_take (i := 3) (v := ?_) rfl (by kernel_rfl) (by kernel_rfl) (by kernel_rfl) (by kernel_rfl) (fun _ _ _ h => h) (Or.inl ⟨by rfl, ?_⟩) (by assumption) ?_
        rotate_left 1
        · (intro w' hSw; obtain ⟨s0, s1, s2⟩ := hSw; go_simp); try with_reducible rfl
        try simp only [Act.put, List.setIfInBounds_toArray, List.set_cons_zero, List.set_cons_succ, Nat.zero_add]
        refine wpAnyY_take (i := 4) (v := ?_) rfl (by kernel_rfl) (by kernel_rfl) (by kernel_rfl) (by kernel_rfl) (fun _ _ _ h => h) (Or.inl ⟨by rfl, ?_⟩) (by assumption) ?_
        rotate_left 1
        · (intro w' hSw; obtain ⟨s0, s1, s2⟩ := hSw; go_simp); try with_reducible rfl
        try simp only [Act.put, List.setIfInBounds_toArray, List.set_cons_zero, List.set_cons_succ, Nat.zero_add]
        refine wpAnyY_take (i := 5) (v := ?_) rfl (by kernel_rfl) (by kernel_rfl) (by kernel_rfl) (by kernel_rfl) (fun _ _ _ h => h) (Or.inl ⟨by rfl, ?_⟩) (by assumption) ?_
        rotate_left 1
        · (intro w' hSw; obtain ⟨s0, s1, s2⟩ := hSw; go_simp); try with_reducible rfl
        try simp only [Act.put, List.setIfInBounds_toArray, List.set_cons_zero, List.set_cons_succ, Nat.zero_add]
        refine wpAnyY_take (i := 6) (v := ?_) rfl (by kernel_rfl) (by kernel_rfl) (by kernel_rfl) (by kernel_rfl) (fun _ _ _ h => h) (Or.inl ⟨by rfl, ?_⟩) (by assumption) ?_
        rotate_left 1
        · (intro w' hSw; obtain ⟨s0, s1, s2⟩ := hSw; go_simp); try with_reducible rfl
        try simp only [Act.put, List.setIfInBounds_toArray, List.set_cons_zero, List.set_cons_succ, Nat.zero_add]
        refine wpAnyY_take (i := 7) (v := ?_) rfl (by kernel_rfl) (by kernel_rfl) (by kernel_rfl) (by kernel_rfl) (fun _ _ _ h => h) (Or.inl ⟨by rfl, ?_⟩) (by assumption) ?_
        rotate_left 1
        · (intro w' hSw; obtain ⟨s0, s1, s2⟩ := hSw; go_simp); try with_reducible rfl
        try simp only [Act.put, List.setIfInBounds_toArray, List.set_cons_zero, List.set_cons_succ, Nat.zero_add]
        refine wpAnyY_take (i := 8) (v := ?_) rfl (by kernel_rfl) (by kernel_rfl) (by kernel_rfl) (by kernel_rfl) (fun _ _ _ h => h) (Or.inl ⟨by rfl, ?_⟩) (by assumption) ?_
        rotate_left 1
        · (intro w' hSw; obtain ⟨s0, s1, s2⟩ := hSw; go_simp); try with_reducible rfl
        try simp only [Act.put, List.setIfInBounds_toArray, List.set_cons_zero, List.set_cons_succ, Nat.zero_add]
        refine wpAnyY_take (i := 9) (v := ?_) rfl (by kernel_rfl) (by kernel_rfl) (by kernel_rfl) (by kernel_rfl) (fun _ _ _ h => h) (Or.inl ⟨by rfl, ?_⟩) (by assumption) ?_
        rotate_left 1
        · (intro w' hSw; obtain ⟨s0, s1, s2⟩ := hSw; go_simp); try with_reducible rfl
        try simp only [Act.put, List.setIfInBounds_toArray, List.set_cons_zero, List.set_cons_succ, Nat.zero_add]
        refine wpAnyY_take (i := 10) (v := ?_) rfl (by kernel_rfl) (by kernel_rfl) (by kernel_rfl) (by kernel_rfl) (fun _ _ _ h => h) (Or.inl ⟨by rfl, ?_⟩) (by assumption) ?_
        rotate_left 1
        · (intro w' hSw; obtain ⟨s0, s1, s2⟩ := hSw; go_simp); try with_reducible rfl
        try simp only [Act.put, List.setIfInBounds_toArray, List.set_cons_zero, List.set_cons_succ, Nat.zero_add]
        refine wpAnyY_one (i := 11) rfl (by kernel_rfl) (fun K hK => ?_)
        go_simp
        obtain ⟨w8, hnw⟩ : ∃ x : World, u.alloc (.cells #[.slice S1 t1 k1, .slice S2 t2 k2] 24) = x := ⟨_, rfl⟩
        have hb3 : Below u.heap.size u w8 := by rw [← hnw]; exact (Below.refl _ _).alloc (Nat.le_refl _) _
        obtain ⟨qHK, hqHK⟩ : ∃ x, u.heap.size = x := ⟨_, rfl⟩
        have HKN8 : Hid (Blk w8 qHK 24 #[.slice S1 t1 k1, .slice S2 t2 k2]) := Lib.hid (by rw [← hnw]; exact Blk.new' hqHK.symm)
        have HBN8 := Lib.hid (HBU.out.trans (hb3.mono HBU.out.size))
        have HON8 := Lib.hid (HOU.out.below hb3)
        clear HBU HOU
        rw [hnw]
        try rw [hqHK]
        clear hnw hb3 hqHK
        refine hK.out _ _ (fun _ => HD.out _ HBN8.out) ?_
        have hHeldN8 := HD.out _ HBN8.out
        clear hK K
        try simp only [Act.put, List.setIfInBounds_toArray, List.set_cons_zero, List.set_cons_succ, Nat.zero_add]
        refine wpAnyY_one (i := 12) rfl (by kernel_rfl) (fun K hK => ?_)
        refine step_lens w8 rfl (.tmp 15) (.tmp 26) rfl (.slice Av vl cv) (by rfl) HON8.out qHK 2 [t1, t2] [.slice S1 t1 k1, .slice S2 t2 k2] (by rfl) HKN8.out (.cons ⟨_, _, rfl⟩ (.cons ⟨_, _, rfl⟩ .nil)) (by rw [HVL.out]; simp; omega) HBN8.out.size ?_
        intro A9 c9 w9 hown9 hg9
        have HB9 : Hid (Below w.heap.size w w9) := Lib.hid (HBN8.out.grown hg9 HBN8.out.size (fun k e => (HON8.out.lt k e).1))
        have HO9 : Hid (LenRow w9 w.heap.size (.slice A9 ((pairLens ps i).length + [t1, t2].length) c9) (pairLens ps (i + 1))) := Lib.hid (by rw [HNEW.out]; exact hown9)
        clear hown9 hg9 HBN8 HON8 HKN8
        refine hK.out _ _ (fun _ => HD.out _ HB9.out) ?_
        have hHeld9 := HD.out _ HB9.out
        clear hK K
        try simp only [Act.put, List.setIfInBounds_toArray, List.set_cons_zero, List.set_cons_succ, Nat.zero_add]
        refine wpAnyY_one0 (i := 13) rfl (by kernel_rfl) (by kernel_rfl) (fun K hK => ?_)
        go_simp
        refine hK.out _ _ ?_
        clear hK K
        try simp only [Act.put, List.setIfInBounds_toArray, List.set_cons_zero, List.set_cons_succ, Nat.zero_add]
        refine wpAnyY_done (by kernel_rfl) ?_ _
        go_wp2
        go_roundg (n - (i + 1))
        case measure => omega
        case rel => exact ⟨i + 1, by go_num, rfl, by omega, by omega, HO9.out, HB9.out⟩
      · have hlt' : (i : Int) < n := by omega
        have h1000' : ¬ (i : Int) < 1000 := by omega
        have HE := Lib.hid (pairLens_end (ps := ps) hi2 (.inr h1000))
        clear hb
        go_wp2
        go_ret
        exact ⟨_, rfl, by rw [← HE.out]; exact HO.out, HB.out⟩
    · have hlt' : ¬ (i : Int) < n := by omega
      have HE := Lib.hid (pairLens_end (ps := ps) hi2 (.inl (by rw [HN.out]; exact hlt)))
      clear hb
      go_wp2
      go_ret
      exact ⟨_, rfl, by rw [← HE.out]; exact HO.out, HB.out⟩
end Go.Proofs.YtgcbnndbeoekgaaDoor
end
section
/- a bound that comes of few nodes is short: in plain Lean -/
namespace Go.Proofs.YtgcbnndbeoekgaaDoor
open Go Go.RowKit

def Fo.holes : Fo → List Nat
  | .nil => []
  | .hole n r => n :: r.holes
  | .app _ k r => k.holes ++ r.holes
theorem holes_mem : ∀ {F : Fo} {m : Nat}, F.has m → m ∈ F.holes
  | .nil, _, h => h.elim
  | .hole n r, m, h => by
    rcases h with h | h
    · subst h; exact List.mem_cons_self ..
    · exact List.mem_cons_of_mem _ (holes_mem h)
  | .app _ k r, m, h => h.elim (fun h => List.mem_append_left _ (holes_mem h)) (fun h => List.mem_append_right _ (holes_mem h))
theorem holes_len : ∀ F : Fo, F.holes.length ≤ F.size
  | .nil => Nat.le_refl _
  | .hole n r => by show r.holes.length + 1 ≤ 1 + r.size; have := holes_len r; omega
  | .app _ k r => by show (k.holes ++ r.holes).length ≤ 1 + k.size + r.size; rw [List.length_append]; have := holes_len k; have := holes_len r; omega
theorem few_of : ∀ {l m : List Nat}, l.Nodup → (∀ x ∈ l, x ∈ m) → l.length ≤ m.length
  | [], _, _, _ => Nat.zero_le _
  | x :: l, m, hn, h => by
    obtain ⟨h1, h2⟩ := List.nodup_cons.1 hn
    have hx := h x (List.mem_cons_self ..)
    have := few_of (l := l) (m := m.erase x) h2 fun y hy => (List.mem_erase_of_ne (fun e => h1 (by rw [← e]; exact hy))).2 (h y (List.mem_cons_of_mem _ hy))
    rw [List.length_erase_of_mem hx] at this
    have h3 := List.length_pos_of_mem hx
    show l.length + 1 ≤ _
    omega
def holesE (E : List (Fo × Fo)) : List Nat := E.flatMap fun p => p.1.holes ++ p.2.holes
theorem ok_has {E : List (Fo × Fo)} {bs : List (Nat × Fo)} (h : Comes E (.ok bs)) : ∀ p ∈ bs, p.1 ∈ holesE E := by
  obtain ⟨hn, hs, _⟩ := h
  have h0 : Sat (valB bs) E := (hs _).2 (valB_sat hn)
  have hb0 := valB_sat hn
  let H : Nat → Prop := fun m => ∃ q ∈ E, q.1.has m ∨ q.2.has m
  have chg : ∀ (m : Nat) (U : IT), ¬ H m → SatB (fun n => if n = m then U else valB bs n) bs := fun m U hm => by
    refine (hs _).1 fun q hq => ?_
    have e : ∀ K : Fo, ¬ K.has m → ev (fun n => if n = m then U else valB bs n) K = ev (valB bs) K := fun K hK => evF_congr K 0 fun n hn => if_neg (fun e => hK (by rw [← e]; exact hn))
    rw [e _ (fun h => hm ⟨q, hq, .inl h⟩), e _ (fun h => hm ⟨q, hq, .inr h⟩)]
    exact h0 q hq
  intro p hp
  have hpp := hb0 p hp
  have hfree := hn.free p hp p hp
  refine Classical.byContradiction fun hno => ?_
  have hm : ¬ H p.1 := fun ⟨q, hq, h⟩ => hno (List.mem_flatMap.2 ⟨q, hq, List.mem_append.2 (h.imp holes_mem holes_mem)⟩)
  have key : ∀ U : IT, U = valB bs p.1 := fun U => by
    have h1 := chg p.1 U hm p hp
    have h1 : (if p.1 = p.1 then U else valB bs p.1) = ev (fun n => if n = p.1 then U else valB bs n) p.2 := h1
    rw [if_pos rfl] at h1
    have e : ev (fun n => if n = p.1 then U else valB bs n) p.2 = ev (valB bs) p.2 := evF_congr p.2 0 fun n hn => if_neg (fun e => hfree (by rw [← e]; exact hn))
    rw [h1, e, ← hpp]
  have := (key (leaf 0)).trans (key (leaf 1)).symm
  exact absurd (leaf_inj this) (by omega)
theorem ok_few {E : List (Fo × Fo)} {bs : List (Nat × Fo)} (h : Comes E (.ok bs)) : bs.length ≤ (holesE E).length := by
  have h1 := few_of (l := bs.map (·.1)) (m := holesE E) ?_ ?_
  · simpa using h1
  · have h2 : (bs.map (·.1)).Pairwise (· < ·) := List.pairwise_map.2 h.1.rise
    exact h2.imp fun h => Nat.ne_of_lt h
  · intro x hx
    obtain ⟨p, hp, rfl⟩ := List.mem_map.1 hx
    exact ok_has h p hp
theorem holesE_len : ∀ {l : List (List TN × List TN)}, (∀ p ∈ l, rightI p.1 = 0 ∧ rightI p.2 = 0) → (holesE (l.map fun p => (treeOf p.1, treeOf p.2))).length ≤ (l.flatMap fun p => [p.1.length, p.2.length]).sum
  | [], _ => Nat.le_refl _
  | p :: r, h => by
    have ih := holesE_len (l := r) fun q hq => h q (List.mem_cons_of_mem _ hq)
    obtain ⟨r1, r2⟩ := h p (List.mem_cons_self ..)
    have a1 := holes_len (treeOf p.1)
    have a2 := holes_len (treeOf p.2)
    have b1 : p.1.length = (treeOf p.1).size := by have := congrArg List.length (treeOf_ok r1).2.2.1; rw [Fo.flat_len] at this; exact this
    have b2 : p.2.length = (treeOf p.2).size := by have := congrArg List.length (treeOf_ok r2).2.2.1; rw [Fo.flat_len] at this; exact this
    unfold holesE at ih ⊢
    rw [List.map_cons, List.flatMap_cons, List.flatMap_cons, List.length_append, List.length_append, List.sum_append]
    simp only [List.sum_cons, List.sum_nil]
    omega
theorem sum_take_le {ns : List Nat} : ∀ {l m : List (List TN × List TN)}, (l ++ m).flatMap (fun p => [p.1.length, p.2.length]) = ns → (l.flatMap fun p => [p.1.length, p.2.length]).sum ≤ ns.sum := fun {l m} h => by
  rw [← h, List.flatMap_append, List.sum_append]; omega
section
variable {ps : List (List TN × List TN)} {k : Nat} {out : List ABind}
theorem SolvedTo.few (h : SolvedTo ps k out) : out.length ≤ (pairLens ps ps.length).sum := by
  obtain ⟨bs, h1, h2⟩ := h.out
  have h3 := ok_few h1
  have h4 : (holesE (eqsP ps k)).length ≤ ((ps.take k).flatMap fun p => [p.1.length, p.2.length]).sum := holesE_len fun p hp => by
    obtain ⟨i, hi, rfl⟩ := List.getElem_of_mem hp
    rw [List.length_take] at hi
    rw [List.getElem_take]
    exact h.right i (by omega) (by omega)
  have h5 := sum_take_le (l := ps.take k) (m := ps.drop k) rfl
  rw [List.take_append_drop] at h5
  rw [h2, List.length_map]
  unfold pairLens
  rw [List.take_length]
  omega
theorem SolvedTo.none (h : SolvedTo ps k out) (h0 : ∀ hp : 0 < ps.length, ps[0].1.length = 0) (hp : 0 < ps.length) (hk : k ≤ ps.length) : k = 0 ∧ out = [] := by
  have e : k = 0 := by
    refine Classical.byContradiction fun hne => ?_
    have h1 := (h.right 0 hp (by omega)).1
    have h2 := treeOf_ok h1
    have h3 := congrArg List.length h2.2.2.1
    rw [Fo.flat_len, h0 hp] at h3
    have := Fo.one_size h2.1
    omega
  subst e
  exact ⟨rfl, h.same SolvedTo.start⟩
/-- what the law asks before it tries -/
def Tried (ps : List (List TN × List TN)) : Prop := ps.length ≤ 4096 → (pairLens ps 1000).sum ≤ 400 ∧ (ps.length ≤ 100 ∨ ∀ hp : 0 < ps.length, ps[0].1.length = 0)
theorem Tried.few (ht : Tried ps) (h4 : ps.length ≤ 4096) (k : Nat) (out : List ABind) (h : SolvedTo ps k out) : out.length ≤ 2000 := by
  obtain ⟨h1, h2⟩ := ht h4
  by_cases h100 : ps.length ≤ 100
  · have h3 := h.few
    have e : pairLens ps ps.length = pairLens ps 1000 := by unfold pairLens; rw [List.take_of_length_le (Nat.le_refl _), List.take_of_length_le (by omega)]
    rw [e] at h3
    omega
  · have h2 := h2.resolve_left h100
    have hk : SolvedTo ps (min k ps.length) out := by
      by_cases hkl : k ≤ ps.length
      · rw [Nat.min_eq_left hkl]; exact h
      · obtain ⟨a, b, c⟩ := h
        rw [Nat.min_eq_right (by omega)]
        refine ⟨fun i hi hik => a i hi (by omega), fun i hi => b i (by omega), ?_⟩
        have e : eqsP ps ps.length = eqsP ps k := by unfold eqsP; rw [List.take_of_length_le (Nat.le_refl _), List.take_of_length_le (by omega)]
        rw [e]; exact c
    rw [(hk.none h2 (by omega) (Nat.min_le_right _ _)).2]
    exact Nat.zero_le _
end
end Go.Proofs.YtgcbnndbeoekgaaDoor
end
