/- the document's web: whether it goes round, what comes of it; in plain Lean -/
import Derived.Test.YtgcbnndbeoekgaaRWebP
set_option linter.unusedSimpArgs false
set_option linter.unusedVariables false
namespace Go.Proofs.Ytgcbnndbeoekgaa
open Go Go.RowKit Go.Maps

section
variable {W : WebT} {E : List (Fo × Fo)} {ns : List TN} {cl : List Nat} {r : Nat → Nat} {tm : Nat → Option Nat} {lo : Nat → Nat}
/-! ### Grounds -/
def grB (gs : List Bool) (c : Nat) : Bool := gs.getD c false
theorem grB_at {gs : List Bool} {c : Nat} (h : c < gs.length) : grB gs c = gs[c] := by unfold grB; simp [List.getD_eq_getElem?_getD, h]
theorem grB_set {gs : List Bool} {c d : Nat} (h : c < gs.length) : grB (gs.set c true) d = if d = c then true else grB gs d := by
  unfold grB
  rw [List.getD_eq_getElem?_getD, List.getD_eq_getElem?_getD, List.getElem?_set]
  by_cases e : c = d
  · subst e; simp [h]
  · rw [if_neg e, if_neg (fun h => e h.symm)]
def blanks (gs : List Bool) : Nat := (gs.filter fun b => !b).length
theorem blanks_set : ∀ {gs : List Bool} {c : Nat} (_ : c < gs.length), grB gs c = false → blanks (gs.set c true) + 1 = blanks gs
  | [], c, h, _ => by simp at h
  | b :: gs, 0, _, h => by
    have h : b = false := by simpa [grB] using h
    subst h
    simp [blanks]
  | b :: gs, c + 1, h, h2 => by
    have h2 : grB gs c = false := by simpa [grB] using h2
    have ih := blanks_set (gs := gs) (c := c) (by simpa using h) h2
    unfold blanks at ih ⊢
    rw [List.set_cons_succ]
    cases b <;> simp [List.filter_cons] <;> omega
/-- each class that has its ground can be laid out -/
def Grd (W : WebT) (r : Nat → Nat) (tm : Nat → Option Nat) (lo : Nat → Nat) (gs : List Bool) : Prop := ∀ c, grB gs c = true → ∃ T, Lay W r tm lo c T
theorem Grd.start (n : Nat) : Grd W r tm lo (List.replicate n false) := fun c h => by
  unfold grB at h
  rw [List.getD_eq_getElem?_getD, List.getElem?_replicate] at h
  by_cases e : c < n
  · rw [if_pos e] at h; cases h
  · rw [if_neg e] at h; cases h
theorem layL_all {gs : List Bool} (h : Grd W r tm lo gs) : ∀ ks : List Nat, (∀ a ∈ ks, grB gs (r a) = true) → ∃ Ls, LayL W r tm lo ks Ls
  | [], _ => ⟨[], .nil⟩
  | a :: ks, hk => by
    obtain ⟨T, hT⟩ := h _ (hk a (List.mem_cons_self ..))
    obtain ⟨Ls, hL⟩ := layL_all h ks fun b hb => hk b (List.mem_cons_of_mem _ hb)
    exact ⟨T :: Ls, .cons _ _ _ _ hT hL⟩
theorem Grd.none {gs : List Bool} (h : Grd W r tm lo gs) {c : Nat} (hc : c < gs.length) (ht : tm c = none) : Grd W r tm lo (gs.set c true) := fun d hd => by
  rw [grB_set hc] at hd
  by_cases e : d = c
  · subst e; exact ⟨_, .hole _ ht⟩
  · rw [if_neg e] at hd; exact h d hd
theorem Grd.some {gs : List Bool} (h : Grd W r tm lo gs) {c t : Nat} {nm : ByteArray} {ks : List Nat} (hc : c < gs.length) (ht : tm c = some t) (e : W.nd t = .app nm ks) (ha : ∀ a ∈ ks, grB gs (r a) = true) : Grd W r tm lo (gs.set c true) := fun d hd => by
  rw [grB_set hc] at hd
  by_cases e2 : d = c
  · subst e2
    obtain ⟨Ls, hL⟩ := layL_all h ks ha
    exact ⟨_, .app _ t nm ks Ls ht e hL⟩
  · rw [if_neg e2] at hd; exact h d hd
/-- a node whose class has no ground, nor one of its arguments -/
def Stuck (W : WebT) (r : Nat → Nat) (tm : Nat → Option Nat) (gs : List Bool) (i : Nat) : Prop := grB gs (r i) = true ∨ ∃ t nm ks, tm (r i) = some t ∧ W.nd t = .app nm ks ∧ ∃ a ∈ ks, grB gs (r a) = false
theorem part2_then {i j k : Nat} (h : Part2 W r tm i j) (h2 : Part2 W r tm j k) : Part2 W r tm i k := by
  induction h with
  | one i t a nm ks hi ht e ha => exact .more i t a k nm ks hi ht e ha h2
  | more i t a j nm ks hi ht e ha _ ih => exact .more i t a k nm ks hi ht e ha (ih h2)
open Classical in
theorem stuck_cyc (hW : W.OK) (hh : Heads W r tm lo) {gs : List Bool} (hs : ∀ i, i < W.n → Stuck W r tm gs i) : ∀ m i, i < W.n → grB gs (r i) = false → ((List.range W.n).filter fun j => decide (Part2 W r tm i j)).length ≤ m → Cyc W r tm := by
  have step : ∀ i, i < W.n → grB gs (r i) = false → ∃ a, a < W.n ∧ grB gs (r a) = false ∧ Part2 W r tm i a := fun i hi hg => by
    rcases hs i hi with h | ⟨t, nm, ks, ht, e, a, ha, hb⟩
    · rw [hg] at h; cases h
    · obtain ⟨t1, _⟩ := hh.some_ i t hi ht
      exact ⟨a, (hW.app t nm ks t1 e).1 a ha, hb, .one i t a nm ks hi ht e ha⟩
  intro m
  induction m with
  | zero =>
    intro i hi hg hm
    obtain ⟨a, ha, _, hp⟩ := step i hi hg
    have : a ∈ (List.range W.n).filter fun j => decide (Part2 W r tm i j) := List.mem_filter.2 ⟨List.mem_range.2 ha, by simpa using hp⟩
    have := List.length_pos_of_mem this
    omega
  | succ m ih =>
    intro i hi hg hm
    obtain ⟨a, ha, hb, hp⟩ := step i hi hg
    by_cases hc : Part2 W r tm a a
    · exact ⟨a, a, ha, hc, rfl⟩
    · refine ih a ha hb ?_
      have := filter_lt (p := fun j => decide (Part2 W r tm i j)) (q := fun j => decide (Part2 W r tm a j)) (fun j hj => by
        simp only [decide_eq_true_eq] at hj ⊢
        exact part2_then hp hj) (y := a) (by simpa using hp) (by simpa using hc) (List.range W.n) (List.mem_range.2 ha)
      omega
theorem stuck_end (hW : W.OK) (hh : Heads W r tm lo) {gs : List Bool} (hs : ∀ i, i < W.n → Stuck W r tm gs i) {i : Nat} (hi : i < W.n) (hg : grB gs (r i) = false) : Cyc W r tm := stuck_cyc hW hh hs _ i hi hg (Nat.le_refl _)
theorem occurs_of (hW : W.OK) (hc : Closed W r) (hh : Heads W r tm lo) (hs : Sound W r E) (hm : Meets W r E) (h : Cyc W r tm) : Comes E .occurs := by
  obtain ⟨i, k, hk, h1, h2⟩ := h
  exact comes_occurs hW hc hh hs hm hk h1 h2

/-! ### The bound, hole by hole -/
structure BTL (W : WebT) (r : Nat → Nat) (tm : Nat → Option Nat) (lo : Nat → Nat) (last : Nat) (bs : List (Nat × Fo)) : Prop where
  rise : bs.Pairwise (fun p q => p.1 < q.1)
  mem : ∀ p, p ∈ bs ↔ p.1 ≤ last ∧ ∃ k, k < W.n ∧ W.nd k = .hole p.1 ∧ Lay W r tm lo (r k) p.2 ∧ p.2 ≠ .hole p.1 .nil
variable {bs : List (Nat × Fo)} {last : Nat}
theorem BTL.start (hW : W.OK) : BTL W r tm lo 0 [] := ⟨List.Pairwise.nil, fun p => ⟨fun h => (by cases h), fun ⟨h, k, hk, e, _⟩ => by have := (hW.hole k p.1 hk e).1; omega⟩⟩
theorem BTL.pass (h : BTL W r tm lo last bs) {m : Nat} (hm : last ≤ m) (hno : ∀ k x, k < W.n → W.nd k = .hole x → x ≤ last ∨ m < x) : BTL W r tm lo m bs :=
  ⟨h.rise, fun p => (h.mem p).trans ⟨fun ⟨a, b⟩ => ⟨by omega, b⟩, fun ⟨a, k, hk, e, b⟩ => ⟨(hno k _ hk e).resolve_right (by omega), k, hk, e, b⟩⟩⟩
theorem BTL.skip (h : BTL W r tm lo last bs) (hc : Closed W r) {x : Nat} (hx : last < x) (hno : ∀ k y, k < W.n → W.nd k = .hole y → y ≤ last ∨ x ≤ y) {k : Nat} (hk : k < W.n) (hn : W.nd k = .hole x) (h1 : tm (r k) = none) (h2 : lo (r k) = x) : BTL W r tm lo x bs := by
  refine ⟨h.rise, fun p => (h.mem p).trans ⟨fun ⟨a, b⟩ => ⟨by omega, b⟩, fun ⟨a, k', hk', e, hL, hne⟩ => ?_⟩⟩
  rcases hno k' _ hk' e with h3 | h3
  · exact ⟨h3, k', hk', e, hL, hne⟩
  · have hpx : p.1 = x := by omega
    exfalso
    have hr : r k' = r k := hc.hole k' k x hk' hk (by rw [e, hpx]) hn
    exact hne ((lay_self hL).2 ⟨by rw [hr]; exact h1, by rw [hr, h2, hpx]⟩)
theorem BTL.put (h : BTL W r tm lo last bs) (hc : Closed W r) {x : Nat} (hx : last < x) (hno : ∀ k y, k < W.n → W.nd k = .hole y → y ≤ last ∨ x ≤ y) {k : Nat} (hk : k < W.n) (hn : W.nd k = .hole x) {T : Fo} (hL : Lay W r tm lo (r k) T) (hne : ¬ (tm (r k) = none ∧ lo (r k) = x)) : BTL W r tm lo x (bs ++ [(x, T)]) := by
  refine ⟨List.pairwise_append.2 ⟨h.rise, List.pairwise_singleton _ _, fun p hp q hq => ?_⟩, fun p => ?_⟩
  · simp only [List.mem_cons, List.not_mem_nil, or_false] at hq
    subst hq
    have := ((h.mem p).1 hp).1
    show p.1 < x
    omega
  · rw [List.mem_append]
    constructor
    · rintro (hp | hp)
      · obtain ⟨a, b⟩ := (h.mem p).1 hp
        exact ⟨by omega, b⟩
      · simp only [List.mem_cons, List.not_mem_nil, or_false] at hp
        subst hp
        exact ⟨Nat.le_refl _, k, hk, hn, hL, fun e => hne ((lay_self hL).1 e)⟩
    · rintro ⟨a, k', hk', e, hL', hne'⟩
      rcases hno k' _ hk' e with h3 | h3
      · exact .inl ((h.mem p).2 ⟨h3, k', hk', e, hL', hne'⟩)
      · right
        have hpx : p.1 = x := by omega
        have hr : r k' = r k := hc.hole k' k x hk' hk (by rw [e, hpx]) hn
        rw [hr] at hL'
        have hT := Lay.uniq _ (Nat.le_refl _) hL' hL
        obtain ⟨p1, p2⟩ := p
        have hpx : p1 = x := hpx
        have hT : p2 = T := hT
        subst hpx; subst hT
        simp
theorem BTL.listed (h : BTL W r tm lo last bs) (hno : ∀ k x, k < W.n → W.nd k = .hole x → x ≤ last) : Listed W r tm lo bs :=
  ⟨h.rise, fun p => (h.mem p).trans ⟨fun ⟨_, x⟩ => x, fun x => ⟨by obtain ⟨k, hk, hn, _⟩ := x; exact hno k _ hk hn, x⟩⟩⟩
open Classical in
theorem BTL.all (hc : Closed W r) (hl : ∀ k, k < W.n → ∃ T, Lay W r tm lo (r k) T) (h : BTL W r tm lo last bs) : ∀ m, ∃ bs', BTL W r tm lo (last + m) bs' ∧ ∀ p ∈ bs, p ∈ bs' := by
  intro m
  induction m with
  | zero => exact ⟨bs, h, fun _ h => h⟩
  | succ m ih =>
    obtain ⟨bs', h1, h2⟩ := ih
    by_cases he : ∃ k, k < W.n ∧ W.nd k = .hole (last + (m + 1))
    · obtain ⟨k, hk, hn⟩ := he
      obtain ⟨T, hT⟩ := hl k hk
      by_cases hs : tm (r k) = none ∧ lo (r k) = last + (m + 1)
      · exact ⟨bs', h1.skip hc (by omega) (fun _ y _ _ => by omega) hk hn hs.1 hs.2, h2⟩
      · exact ⟨_, h1.put hc (by omega) (fun _ y _ _ => by omega) hk hn hT hs, fun p hp => List.mem_append_left _ (h2 p hp)⟩
    · refine ⟨bs', h1.pass (by omega) fun k x hk hn => ?_, h2⟩
      by_cases e : x = last + (m + 1)
      · subst e; exact absurd ⟨k, hk, hn⟩ he
      · omega
theorem ok_of (hW : W.OK) (hc : Closed W r) (hh : Heads W r tm lo) (hs : Sound W r E) (hm : Meets W r E) (hl : ∀ k, k < W.n → ∃ T, Lay W r tm lo (r k) T) (hL : Listed W r tm lo bs) (h : ∀ p ∈ bs, p.2.size ≤ 256) : Comes E (.ok bs) :=
  comes_ok hW hc hh (ranked_lay hl) hs hm (hL.bound hW hh hl) h
theorem long_of (hW : W.OK) (hc : Closed W r) (hh : Heads W r tm lo) (hs : Sound W r E) (hm : Meets W r E) (hl : ∀ k, k < W.n → ∃ T, Lay W r tm lo (r k) T) (h : BTL W r tm lo last bs) (hbig : ∀ k x, k < W.n → W.nd k = .hole x → x ≤ 2147483647) {x : Nat} (hx : last < x) (hno : ∀ k y, k < W.n → W.nd k = .hole y → y ≤ last ∨ x ≤ y) {k : Nat} (hk : k < W.n) (hn : W.nd k = .hole x) {T : Fo} (hT : Lay W r tm lo (r k) T) (h256 : 256 < T.size) : Comes E .long := by
  have hne : ¬ (tm (r k) = none ∧ lo (r k) = x) := fun e => by
    have := (lay_self hT).2 e
    rw [this] at h256
    have : (Fo.hole x .nil).size = 1 := rfl
    omega
  have h1 := h.put hc hx hno hk hn hT hne
  obtain ⟨bs', h2, h3⟩ := BTL.all hc hl h1 2147483647
  have hL := h2.listed fun k y hk hy => by have := hbig k y hk hy; omega
  exact comes_long hW hc hh (ranked_lay hl) hs hm (hL.bound hW hh hl) ⟨(x, T), h3 _ (List.mem_append_right _ (List.mem_cons_self ..)), h256⟩
end
end Go.Proofs.Ytgcbnndbeoekgaa
