/- the bound of all that met, hole by hole: in plain Lean -/
import Derived.Test.YtgcbnndbeoekgaaDoorMeasP
set_option linter.unusedSimpArgs false
set_option linter.unusedVariables false
namespace Go.Proofs.YtgcbnndbeoekgaaDoor
open Go Go.RowKit Go.Maps

/-- what of the bound has been told when so many holes have been gone through -/
structure BTo (W : WebT) (r : Nat → Nat) (tm : Nat → Option Nat) (lo : Nat → Nat) (hs : List Nat) (i : Nat) (bs : List (Nat × Fo)) : Prop where
  rise : bs.Pairwise (fun p q => p.1 < q.1)
  mem : ∀ p, p ∈ bs ↔ (∃ j, j < i ∧ ∃ h : j < hs.length, hs[j] = p.1) ∧ ∃ k, k < W.n ∧ W.nd k = .hole p.1 ∧ Lay W r tm lo (r k) p.2 ∧ p.2 ≠ .hole p.1 .nil
section
variable {W : WebT} {r : Nat → Nat} {tm : Nat → Option Nat} {lo : Nat → Nat} {hs : List Nat} {i : Nat} {bs : List (Nat × Fo)} {E : List (Fo × Fo)} {td : List (Nat × Nat)}
theorem BTo.start : BTo W r tm lo hs 0 [] := ⟨List.Pairwise.nil, fun p => ⟨fun h => (by cases h), fun ⟨⟨j, hj, _⟩, _⟩ => (by omega)⟩⟩
theorem lay_self {c h : Nat} {T : Fo} (hT : Lay W r tm lo c T) : T = .hole h .nil ↔ tm c = none ∧ lo c = h := by
  constructor
  · intro e
    subst e
    cases hT with
    | hole _ e => exact ⟨e, rfl⟩
  · rintro ⟨e1, e2⟩
    cases hT with
    | hole _ e => rw [e2]
    | app _ t nm ks Ls e _ _ => rw [e1] at e; cases e
/-- a hole that stands for itself -/
theorem BTo.skip (h : BTo W r tm lo hs i bs) (hU : USt W r tm lo td E) (hi : i < hs.length) {k : Nat} (hk : k < W.n) (hn : W.nd k = .hole hs[i]) (h1 : tm (r k) = none) (h2 : lo (r k) = hs[i]) : BTo W r tm lo hs (i + 1) bs := by
  refine ⟨h.rise, fun p => (h.mem p).trans ⟨fun ⟨⟨j, hj, hl, e⟩, x⟩ => ⟨⟨j, by omega, hl, e⟩, x⟩, fun ⟨⟨j, hj, hl, e⟩, x⟩ => ?_⟩⟩
  by_cases e2 : j = i
  · subst e2
    exfalso
    obtain ⟨k', hk', hn', hL, hne⟩ := x
    have : k' = k := hU.hol k' k _ hk' hk (by rw [hn', ← e]) hn
    subst this
    exact hne ((lay_self hL).2 ⟨h1, by rw [h2, e]⟩)
  · exact ⟨⟨j, by omega, hl, e⟩, x⟩
/-- a hole for which something stands -/
theorem BTo.put (h : BTo W r tm lo hs i bs) (hU : USt W r tm lo td E) (hr : hs.Pairwise (· < ·)) (hi : i < hs.length) {k : Nat} (hk : k < W.n) (hn : W.nd k = .hole hs[i]) {T : Fo} (hL : Lay W r tm lo (r k) T) (hne : ¬ (tm (r k) = none ∧ lo (r k) = hs[i])) : BTo W r tm lo hs (i + 1) (bs ++ [(hs[i], T)]) := by
  have hlt : ∀ j (hj : j < hs.length), j < i → hs[j] < hs[i] := fun j hj hji => List.pairwise_iff_getElem.1 hr j i hj hi hji
  refine ⟨List.pairwise_append.2 ⟨h.rise, List.pairwise_singleton _ _, fun p hp q hq => ?_⟩, fun p => ?_⟩
  · simp only [List.mem_cons, List.not_mem_nil, or_false] at hq
    subst hq
    obtain ⟨⟨j, hj, hl, e⟩, _⟩ := (h.mem p).1 hp
    rw [← e]; exact hlt j hl hj
  · rw [List.mem_append]
    constructor
    · rintro (hp | hp)
      · obtain ⟨⟨j, hj, hl, e⟩, x⟩ := (h.mem p).1 hp
        exact ⟨⟨j, by omega, hl, e⟩, x⟩
      · simp only [List.mem_cons, List.not_mem_nil, or_false] at hp
        subst hp
        exact ⟨⟨i, by omega, hi, rfl⟩, k, hk, hn, hL, fun e => hne ((lay_self hL).1 e)⟩
    · rintro ⟨⟨j, hj, hl, e⟩, k', hk', hn', hL', hne'⟩
      by_cases e2 : j = i
      · subst e2
        right
        have : k' = k := hU.hol k' k _ hk' hk (by rw [hn', ← e]) hn
        subst this
        have hT := Lay.uniq _ (Nat.le_refl _) hL' hL
        obtain ⟨p1, p2⟩ := p
        have e : hs[j] = p1 := e
        have hT : p2 = T := hT
        subst hT; subst e
        simp
      · exact .inl ((h.mem p).2 ⟨⟨j, by omega, hl, e⟩, k', hk', hn', hL', hne'⟩)
theorem BTo.listed (h : BTo W r tm lo hs i bs) (hi : ¬ i < hs.length) (hall : ∀ k x, k < W.n → W.nd k = .hole x → x ∈ hs) : Listed W r tm lo bs := by
  refine ⟨h.rise, fun p => (h.mem p).trans ⟨fun ⟨_, x⟩ => x, fun x => ⟨?_, x⟩⟩⟩
  obtain ⟨k, hk, hn, _⟩ := x
  obtain ⟨j, hj, e⟩ := List.getElem_of_mem (hall k _ hk hn)
  exact ⟨j, by omega, hj, e⟩
open Classical in
/-- there is always all of it -/
theorem BTo.all (hU : USt W r tm lo td E) (hr : hs.Pairwise (· < ·)) (hin : ∀ x ∈ hs, ∃ k, k < W.n ∧ W.nd k = .hole x) (hl : ∀ k, k < W.n → ∃ T, Lay W r tm lo (r k) T) (h : BTo W r tm lo hs i bs) : ∀ m, i + m ≤ hs.length → ∃ bs', BTo W r tm lo hs (i + m) bs' ∧ ∀ p ∈ bs, p ∈ bs' := by
  intro m
  induction m with
  | zero => intro _; exact ⟨bs, h, fun _ h => h⟩
  | succ m ih =>
    intro hm
    obtain ⟨bs', h1, h2⟩ := ih (by omega)
    have hi : i + m < hs.length := by omega
    obtain ⟨k, hk, hn⟩ := hin _ (List.getElem_mem hi)
    obtain ⟨T, hT⟩ := hl k hk
    by_cases hc : tm (r k) = none ∧ lo (r k) = hs[i + m]
    · exact ⟨bs', h1.skip hU hi hk hn hc.1 hc.2, h2⟩
    · exact ⟨_, h1.put hU hr hi hk hn hT hc, fun p hp => List.mem_append_left _ (h2 p hp)⟩
theorem all_meets (hU : USt W r tm lo [] E) (hM : Meets W r E) (hl : ∀ k, k < W.n → ∃ T, Lay W r tm lo (r k) T) (hL : Listed W r tm lo bs) : (∀ p ∈ bs, p.2.size ≤ 256) → Comes E (.ok bs) :=
  fun h => comes_ok hU.ok hU.closed hU.heads (ranked_lay hl) hU.sound hM (hL.bound hU.ok hU.heads hl) h
/-- something too long stands for a hole -/
theorem BTo.long (hU : USt W r tm lo [] E) (hM : Meets W r E) (hr : hs.Pairwise (· < ·)) (hin : ∀ x ∈ hs, ∃ k, k < W.n ∧ W.nd k = .hole x) (hall : ∀ k x, k < W.n → W.nd k = .hole x → x ∈ hs) (hl : ∀ k, k < W.n → ∃ T, Lay W r tm lo (r k) T) (h : BTo W r tm lo hs i bs) (hi : i < hs.length) {k : Nat} (hk : k < W.n) (hn : W.nd k = .hole hs[i]) {T : Fo} (hT : Lay W r tm lo (r k) T) (h256 : 256 < T.size) : Comes E .long := by
  have hne : ¬ (tm (r k) = none ∧ lo (r k) = hs[i]) := fun e => by
    have := (lay_self hT).2 e
    rw [this] at h256
    have : (Fo.hole hs[i] .nil).size = 1 := rfl
    omega
  have h1 := h.put hU hr hi hk hn hT hne
  obtain ⟨bs', h2, h3⟩ := BTo.all hU hr hin hl h1 (hs.length - (i + 1)) (by omega)
  rw [show i + 1 + (hs.length - (i + 1)) = hs.length by omega] at h2
  have hL := h2.listed (by omega) hall
  exact comes_long hU.ok hU.closed hU.heads (ranked_lay hl) hU.sound hM (hL.bound hU.ok hU.heads hl) ⟨(hs[i], T), h3 _ (List.mem_append_right _ (List.mem_cons_self ..)), h256⟩
theorem cyc_occurs (hU : USt W r tm lo [] E) (hM : Meets W r E) (h : Cyc W r tm) : Comes E .occurs := by
  obtain ⟨i, k, hk, h1, h2⟩ := h
  exact comes_occurs hU.ok hU.closed hU.heads hU.sound hM hk h1 h2
end
end Go.Proofs.YtgcbnndbeoekgaaDoor
