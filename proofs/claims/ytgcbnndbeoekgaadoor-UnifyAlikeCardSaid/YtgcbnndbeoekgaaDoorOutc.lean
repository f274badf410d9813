import Derived.Test.YtgcbnndbeoekgaaDoorInf
set_option linter.unusedSimpArgs false
set_option linter.unusedVariables false
section
/- terms that meet, in classes: what they say of all solutions; in plain Lean -/
namespace Go.Proofs.YtgcbnndbeoekgaaDoor
open Go Go.RowKit

inductive Nd where
  | hole (h : Nat)
  | app (nm : ByteArray) (as : List Nat)
/-- trees in a row, as one forest -/
def ofL : List Fo → Fo
  | [] => .nil
  | T :: r => T.app2 (ofL r)
theorem ofL_cnt : ∀ {L : List Fo}, (∀ T ∈ L, T.one) → (ofL L).cnt = L.length
  | [], _ => rfl
  | T :: r, h => by
    show (T.app2 (ofL r)).cnt = r.length + 1
    rw [Fo.cnt_app2, Fo.one_cnt (h T (List.mem_cons_self ..)), ofL_cnt (fun U hU => h U (List.mem_cons_of_mem _ hU))]; omega
theorem evF_ofL {θ : Nat → IT} : ∀ {L : List Fo}, (∀ T ∈ L, T.one) → ∀ i, evF θ (ofL L) i = match L[i]? with | some T => ev θ T | none => fun _ => none
  | [], _, i => by cases i <;> rfl
  | T :: r, h, i => by
    show evF θ (T.app2 (ofL r)) i = _
    rw [evF_app2, Fo.one_cnt (h T (List.mem_cons_self ..))]
    cases i with
    | zero => rw [if_pos (by omega)]; rfl
    | succ i =>
      rw [if_neg (by omega)]
      exact evF_ofL (fun U hU => h U (List.mem_cons_of_mem _ hU)) i
theorem ofL_size : ∀ {L : List Fo} {T : Fo}, T ∈ L → T.size ≤ (ofL L).size
  | [], _, h => by cases h
  | U :: r, T, h => by
    show T.size ≤ (U.app2 (ofL r)).size
    rw [Fo.size_app2]
    rcases List.mem_cons.1 h with e | e
    · subst e; omega
    · have := ofL_size e; omega
theorem ofL_has : ∀ {L : List Fo} {k : Nat}, (ofL L).has k → ∃ T ∈ L, T.has k
  | [], _, h => h.elim
  | U :: r, k, h => by
    have key : ∀ (F G : Fo), (F.app2 G).has k → F.has k ∨ G.has k := by
      intro F G
      induction F with
      | nil => exact .inr
      | hole n r ih =>
        rintro (h | h)
        · exact .inl (.inl h)
        · exact (ih h).imp .inr id
      | app nm K r _ ih =>
        rintro (h | h)
        · exact .inl (.inl h)
        · exact (ih h).imp .inr id
    rcases key U (ofL r) h with h | h
    · exact ⟨U, List.mem_cons_self .., h⟩
    · obtain ⟨T, hT, h2⟩ := ofL_has h
      exact ⟨T, List.mem_cons_of_mem _ hT, h2⟩
/-- nodes, the tree of each -/
structure WebT where
  n : Nat
  nd : Nat → Nd
  tr : Nat → Fo
structure WebT.OK (W : WebT) : Prop where
  hole : ∀ i h, i < W.n → W.nd i = .hole h → 1 ≤ h ∧ W.tr i = .hole h .nil
  app : ∀ i nm as, i < W.n → W.nd i = .app nm as → (∀ a ∈ as, a < W.n) ∧ W.tr i = .app nm (ofL (as.map W.tr)) .nil
section
variable {W : WebT} {θ : Nat → IT} {r : Nat → Nat} {E : List (Fo × Fo)}
theorem WebT.OK.one (hW : W.OK) {i : Nat} (hi : i < W.n) : (W.tr i).one := by
  cases e : W.nd i with
  | hole h => rw [(hW.hole i h hi e).2]; exact rfl
  | app nm as => rw [(hW.app i nm as hi e).2]; exact rfl
def WebT.val (W : WebT) (θ : Nat → IT) (i : Nat) : IT := ev θ (W.tr i)
theorem val_hole (hW : W.OK) {i h : Nat} (hi : i < W.n) (e : W.nd i = .hole h) : W.val θ i = θ h := by
  unfold WebT.val; rw [(hW.hole i h hi e).2]; rfl
theorem val_nil (hW : W.OK) {i : Nat} {nm : ByteArray} {as : List Nat} (hi : i < W.n) (e : W.nd i = .app nm as) : W.val θ i [] = some (.fn nm as.length) := by
  obtain ⟨h1, h2⟩ := hW.app i nm as hi e
  unfold WebT.val; rw [h2]
  show some (Lab.fn nm (ofL (as.map W.tr)).cnt) = _
  rw [ofL_cnt (fun T hT => by obtain ⟨a, ha, rfl⟩ := List.mem_map.1 hT; exact hW.one (h1 a ha)), List.length_map]
theorem val_cons (hW : W.OK) {i : Nat} {nm : ByteArray} {as : List Nat} (hi : i < W.n) (e : W.nd i = .app nm as) (j : Nat) (q : List Nat) : W.val θ i (j :: q) = match as[j]? with | some a => W.val θ a q | none => none := by
  obtain ⟨h1, h2⟩ := hW.app i nm as hi e
  unfold WebT.val; rw [h2]
  show evF θ (ofL (as.map W.tr)) j q = _
  rw [evF_ofL (fun T hT => by obtain ⟨a, ha, rfl⟩ := List.mem_map.1 hT; exact hW.one (h1 a ha)), List.getElem?_map]
  cases as[j]? <;> rfl
theorem app_ext {u v : IT} {nm : ByteArray} {k : Nat} (h1 : u [] = v []) (h2 : ∀ j q, u (j :: q) = v (j :: q)) : u = v := by
  funext p
  cases p with
  | nil => exact h1
  | cons j q => exact h2 j q
/-- classes that are closed, and in which nothing clashes -/
structure Closed (W : WebT) (r : Nat → Nat) : Prop where
  hole : ∀ i j h, i < W.n → j < W.n → W.nd i = .hole h → W.nd j = .hole h → r i = r j
  app : ∀ i j nm as nm' as', i < W.n → j < W.n → r i = r j → W.nd i = .app nm as → W.nd j = .app nm' as' → nm = nm' ∧ as.length = as'.length ∧ ∀ (k a a' : Nat), as[k]? = some a → as'[k]? = some a' → r a = r a'
/-- in each solution those of one class have one value -/
def Sound (W : WebT) (r : Nat → Nat) (E : List (Fo × Fo)) : Prop := ∀ θ, Sat θ E → ∀ i j, i < W.n → j < W.n → r i = r j → W.val θ i = W.val θ j
/-- both terms of each equation meet -/
def Meets (W : WebT) (r : Nat → Nat) (E : List (Fo × Fo)) : Prop := ∀ p ∈ E, ∃ i j, i < W.n ∧ j < W.n ∧ W.tr i = p.1 ∧ W.tr j = p.2 ∧ r i = r j
/-- of each class: one of its terms, or its least hole -/
structure Heads (W : WebT) (r : Nat → Nat) (tm : Nat → Option Nat) (lo : Nat → Nat) : Prop where
  some_ : ∀ i t, i < W.n → tm (r i) = some t → t < W.n ∧ r t = r i ∧ ∃ nm as, W.nd t = .app nm as
  none_ : ∀ i, i < W.n → tm (r i) = none → (∃ h, W.nd i = .hole h ∧ lo (r i) ≤ h) ∧ ∃ j, j < W.n ∧ r j = r i ∧ W.nd j = .hole (lo (r i))
section
variable {tm : Nat → Option Nat} {lo : Nat → Nat}
/-- a class unfolded -/
def un (W : WebT) (r : Nat → Nat) (tm : Nat → Option Nat) (lo : Nat → Nat) : List Nat → Nat → Option Lab
  | [], i => match tm (r i) with
    | some t => (match W.nd t with | .app nm as => some (.fn nm as.length) | .hole _ => none)
    | none => some (.hole (lo (r i)))
  | j :: q, i => match tm (r i) with
    | some t => (match W.nd t with | .app _ as => (match as[j]? with | some a => un W r tm lo q a | none => none) | .hole _ => none)
    | none => none
theorem un_class (p : List Nat) {i j : Nat} (h : r i = r j) : un W r tm lo p i = un W r tm lo p j := by
  cases p with
  | nil => unfold un; rw [h]
  | cons k q => unfold un; rw [h]
open Classical in
noncomputable def valU (W : WebT) (r : Nat → Nat) (tm : Nat → Option Nat) (lo : Nat → Nat) (h : Nat) : IT :=
  if e : ∃ i, i < W.n ∧ W.nd i = .hole h then fun p => un W r tm lo p e.choose else leaf h
theorem un_val (hW : W.OK) (hc : Closed W r) (hh : Heads W r tm lo) : ∀ p i, i < W.n → W.val (valU W r tm lo) i p = un W r tm lo p i := by
  have hol : ∀ p i h, i < W.n → W.nd i = .hole h → W.val (valU W r tm lo) i p = un W r tm lo p i := by
    intro p i h hi e
    rw [val_hole hW hi e]
    have hex : ∃ i, i < W.n ∧ W.nd i = .hole h := ⟨i, hi, e⟩
    unfold valU
    rw [dif_pos hex]
    exact un_class p (hc.hole _ _ h hex.choose_spec.1 hi hex.choose_spec.2 e)
  intro p
  induction p with
  | nil =>
    intro i hi
    cases e : W.nd i with
    | hole h => exact hol [] i h hi e
    | app nm as =>
      rw [val_nil hW hi e]
      unfold un
      cases ht : tm (r i) with
      | none => obtain ⟨⟨h, e2, _⟩, _⟩ := hh.none_ i hi ht; rw [e] at e2; cases e2
      | some t =>
        obtain ⟨t1, t2, nm', as', t3⟩ := hh.some_ i t hi ht
        obtain ⟨c1, c2, _⟩ := hc.app i t nm as nm' as' hi t1 t2.symm e t3
        simp only [t3]; rw [c1, c2]
  | cons j q ih =>
    intro i hi
    cases e : W.nd i with
    | hole h => exact hol (j :: q) i h hi e
    | app nm as =>
      rw [val_cons hW hi e]
      unfold un
      cases ht : tm (r i) with
      | none => obtain ⟨⟨h, e2, _⟩, _⟩ := hh.none_ i hi ht; rw [e] at e2; cases e2
      | some t =>
        obtain ⟨t1, t2, nm', as', t3⟩ := hh.some_ i t hi ht
        obtain ⟨c1, c2, c3⟩ := hc.app i t nm as nm' as' hi t1 t2.symm e t3
        simp only [t3]
        cases ha : as[j]? with
        | none =>
          have : as'[j]? = none := List.getElem?_eq_none (by have := List.getElem?_eq_none_iff.1 ha; omega)
          rw [this]
        | some a =>
          have hj : j < as'.length := by have := (List.getElem?_eq_some_iff.1 ha).1; omega
          rw [List.getElem?_eq_getElem hj]
          simp only
          rw [ih a ((hW.app i nm as hi e).1 a (List.mem_of_getElem? ha))]
          exact un_class q (c3 j a _ ha (List.getElem?_eq_getElem hj))
/-- what does not clash has a solution -/
theorem sat_valU (hW : W.OK) (hc : Closed W r) (hh : Heads W r tm lo) (hm : Meets W r E) : Sat (valU W r tm lo) E := by
  intro p hp
  obtain ⟨i, j, hi, hj, e1, e2, e3⟩ := hm p hp
  rw [← e1, ← e2]
  funext q
  have h1 := un_val hW hc hh q i hi
  have h2 := un_val hW hc hh q j hj
  unfold WebT.val at h1 h2
  rw [h1, h2, un_class q e3]
/-- no class is part of itself -/
def Ranked (W : WebT) (r : Nat → Nat) (tm : Nat → Option Nat) (rk : Nat → Nat) : Prop := ∀ i t nm as, i < W.n → tm (r i) = some t → W.nd t = .app nm as → ∀ a ∈ as, rk (r a) < rk (r i)
/-- a class laid out -/
def trC (W : WebT) (r : Nat → Nat) (tm : Nat → Option Nat) (lo : Nat → Nat) : Nat → Nat → Fo
  | 0, i => .hole (lo (r i)) .nil
  | f + 1, i => match tm (r i) with
    | some t => (match W.nd t with | .app nm as => .app nm (ofL (as.map (trC W r tm lo f))) .nil | .hole h => .hole h .nil)
    | none => .hole (lo (r i)) .nil
variable {rk : Nat → Nat}
theorem trC_more (hW : W.OK) (hh : Heads W r tm lo) (hr : Ranked W r tm rk) : ∀ f f' i, i < W.n → rk (r i) < f → rk (r i) < f' → trC W r tm lo f i = trC W r tm lo f' i := by
  intro f
  induction f with
  | zero => intro f' i _ h; omega
  | succ f ih =>
    intro f' i hi h h'
    obtain ⟨f', rfl⟩ : ∃ g, f' = g + 1 := ⟨f' - 1, by omega⟩
    unfold trC
    cases ht : tm (r i) with
    | none => rfl
    | some t =>
      obtain ⟨t1, _, nm, as, t3⟩ := hh.some_ i t hi ht
      simp only [t3]
      congr 2
      refine List.map_congr_left fun a ha => ?_
      have := hr i t nm as hi ht t3 a ha
      exact ih f' a ((hW.app t nm as t1 t3).1 a ha) (by omega) (by omega)
def TC (W : WebT) (r : Nat → Nat) (tm : Nat → Option Nat) (lo : Nat → Nat) (rk : Nat → Nat) (i : Nat) : Fo := trC W r tm lo (rk (r i) + 1) i
theorem TC_class {i j : Nat} (h : r i = r j) : TC W r tm lo rk i = TC W r tm lo rk j := by
  unfold TC; rw [h]; unfold trC; rw [h]
theorem TC_none {i : Nat} (ht : tm (r i) = none) : TC W r tm lo rk i = .hole (lo (r i)) .nil := by
  unfold TC trC; rw [ht]
theorem TC_some (hW : W.OK) (hh : Heads W r tm lo) (hr : Ranked W r tm rk) {i t : Nat} {nm : ByteArray} {as : List Nat} (hi : i < W.n) (ht : tm (r i) = some t) (e : W.nd t = .app nm as) : TC W r tm lo rk i = .app nm (ofL (as.map (TC W r tm lo rk))) .nil := by
  obtain ⟨t1, _⟩ := hh.some_ i t hi ht
  show trC W r tm lo (rk (r i) + 1) i = _
  rw [trC, ht]
  simp only [e]
  congr 2
  refine List.map_congr_left fun a ha => ?_
  have := hr i t nm as hi ht e a ha
  exact trC_more hW hh hr _ _ a ((hW.app t nm as t1 e).1 a ha) (by omega) (by omega)
theorem TC_one (hW : W.OK) (hh : Heads W r tm lo) (hr : Ranked W r tm rk) {i : Nat} (hi : i < W.n) : (TC W r tm lo rk i).one := by
  cases ht : tm (r i) with
  | none => rw [TC_none ht]; exact rfl
  | some t =>
    obtain ⟨_, _, nm, as, e⟩ := hh.some_ i t hi ht
    rw [TC_some hW hh hr hi ht e]; exact rfl
/-- the value of a class, by the values of its arguments -/
theorem ev_TC (hW : W.OK) (hh : Heads W r tm lo) (hr : Ranked W r tm rk) {i t : Nat} {nm : ByteArray} {as : List Nat} (hi : i < W.n) (ht : tm (r i) = some t) (e : W.nd t = .app nm as) :
    ev θ (TC W r tm lo rk i) [] = some (.fn nm as.length) ∧ ∀ j q, ev θ (TC W r tm lo rk i) (j :: q) = match as[j]? with | some a => ev θ (TC W r tm lo rk a) q | none => none := by
  obtain ⟨t1, _⟩ := hh.some_ i t hi ht
  have ho : ∀ T ∈ as.map (TC W r tm lo rk), T.one := fun T hT => by
    obtain ⟨a, ha, rfl⟩ := List.mem_map.1 hT
    exact TC_one hW hh hr ((hW.app t nm as t1 e).1 a ha)
  rw [TC_some hW hh hr hi ht e]
  refine ⟨?_, fun j q => ?_⟩
  · show some (Lab.fn nm (ofL _).cnt) = _
    rw [ofL_cnt ho, List.length_map]
  · show evF θ (ofL _) j q = _
    rw [evF_ofL ho, List.getElem?_map]
    cases as[j]? <;> rfl
theorem val_TC (hW : W.OK) (hh : Heads W r tm lo) (hr : Ranked W r tm rk) (hs : Sound W r E) (hθ : Sat θ E) : ∀ d i, i < W.n → rk (r i) < d → W.val θ i = ev θ (TC W r tm lo rk i) := by
  intro d
  induction d with
  | zero => intro i _ h; omega
  | succ d ih =>
    intro i hi hd
    cases ht : tm (r i) with
    | none =>
      obtain ⟨_, j, hj, e1, e2⟩ := hh.none_ i hi ht
      rw [TC_none ht, hs θ hθ i j hi hj e1.symm, val_hole hW hj e2]; rfl
    | some t =>
      obtain ⟨t1, t2, nm, as, e⟩ := hh.some_ i t hi ht
      rw [hs θ hθ i t hi t1 t2.symm]
      obtain ⟨v1, v2⟩ := ev_TC (θ := θ) hW hh hr hi ht e
      refine app_ext (nm := nm) (k := as.length) ?_ fun j q => ?_
      · rw [val_nil hW t1 e, v1]
      · rw [val_cons hW t1 e, v2]
        cases ha : as[j]? with
        | none => rfl
        | some a =>
          have hm := List.mem_of_getElem? ha
          have := hr i t nm as hi ht e a hm
          exact congrFun (ih a ((hW.app t nm as t1 e).1 a hm) (by omega)) q
/-- the bound of the classes -/
structure BoundOf (W : WebT) (r : Nat → Nat) (tm : Nat → Option Nat) (lo : Nat → Nat) (rk : Nat → Nat) (bs : List (Nat × Fo)) : Prop where
  rise : bs.Pairwise (fun p q => p.1 < q.1)
  mem : ∀ p, p ∈ bs ↔ ∃ i, i < W.n ∧ W.nd i = .hole p.1 ∧ p.2 = TC W r tm lo rk i ∧ p.2 ≠ .hole p.1 .nil
variable {bs : List (Nat × Fo)}
theorem val_TC' (hW : W.OK) (hc : Closed W r) (hh : Heads W r tm lo) (hr : Ranked W r tm rk) (hb : BoundOf W r tm lo rk bs) (hθ : SatB θ bs) : ∀ d i, i < W.n → (W.tr i).size < d → W.val θ i = ev θ (TC W r tm lo rk i) := by
  intro d
  induction d with
  | zero => intro i _ h; omega
  | succ d ih =>
    intro i hi hd
    cases e : W.nd i with
    | hole h =>
      rw [val_hole hW hi e]
      by_cases hT : TC W r tm lo rk i = .hole h .nil
      · rw [hT]; rfl
      · exact hθ (h, TC W r tm lo rk i) ((hb.mem _).2 ⟨i, hi, e, rfl, hT⟩)
    | app nm as =>
      cases ht : tm (r i) with
      | none => obtain ⟨⟨h, e2, _⟩, _⟩ := hh.none_ i hi ht; rw [e] at e2; cases e2
      | some t =>
        obtain ⟨t1, t2, nm', as', e'⟩ := hh.some_ i t hi ht
        obtain ⟨c1, c2, c3⟩ := hc.app i t nm as nm' as' hi t1 t2.symm e e'
        obtain ⟨v1, v2⟩ := ev_TC (θ := θ) hW hh hr hi ht e'
        refine app_ext (nm := nm) (k := as.length) ?_ fun j q => ?_
        · rw [val_nil hW hi e, v1, c1, c2]
        · rw [val_cons hW hi e, v2]
          cases ha : as[j]? with
          | none =>
            have : as'[j]? = none := List.getElem?_eq_none (by have := List.getElem?_eq_none_iff.1 ha; omega)
            rw [this]
          | some a =>
            have hj : j < as'.length := by have := (List.getElem?_eq_some_iff.1 ha).1; omega
            rw [List.getElem?_eq_getElem hj]
            have hm := List.mem_of_getElem? ha
            obtain ⟨w1, w2⟩ := hW.app i nm as hi e
            have hsz : (W.tr a).size < (W.tr i).size := by
              have := ofL_size (List.mem_map_of_mem (f := W.tr) hm)
              rw [w2]
              show _ < 1 + (ofL (as.map W.tr)).size + 0
              omega
            have h1 := congrFun (ih a (w1 a hm) (by omega)) q
            show W.val θ a q = ev θ (TC W r tm lo rk as'[j]) q
            rw [h1, TC_class (c3 j a _ ha (List.getElem?_eq_getElem hj))]
/-- the bound has just the solutions of the equations -/
theorem sat_bound (hW : W.OK) (hc : Closed W r) (hh : Heads W r tm lo) (hr : Ranked W r tm rk) (hs : Sound W r E) (hm : Meets W r E) (hb : BoundOf W r tm lo rk bs) (θ : Nat → IT) : Sat θ E ↔ SatB θ bs := by
  constructor
  · intro h p hp
    obtain ⟨i, hi, e, e2, _⟩ := (hb.mem p).1 hp
    rw [e2, ← val_TC hW hh hr hs h _ i hi (Nat.lt_succ_self _), val_hole hW hi e]
  · intro h p hp
    obtain ⟨i, j, hi, hj, e1, e2, e3⟩ := hm p hp
    have h1 := val_TC' hW hc hh hr hb h _ i hi (Nat.lt_succ_self _)
    have h2 := val_TC' hW hc hh hr hb h _ j hj (Nat.lt_succ_self _)
    unfold WebT.val at h1 h2
    rw [← e1, ← e2, h1, h2, TC_class e3]
theorem TC_has (hW : W.OK) (hh : Heads W r tm lo) (hr : Ranked W r tm rk) : ∀ d i, i < W.n → rk (r i) < d → ∀ k, (TC W r tm lo rk i).has k → ∃ j, j < W.n ∧ tm (r j) = none ∧ k = lo (r j) := by
  intro d
  induction d with
  | zero => intro i _ h; omega
  | succ d ih =>
    intro i hi hd k hk
    cases ht : tm (r i) with
    | none =>
      rw [TC_none ht] at hk
      rcases hk with hk | hk
      · exact ⟨i, hi, ht, hk.symm⟩
      · exact hk.elim
    | some t =>
      obtain ⟨t1, _, nm, as, e⟩ := hh.some_ i t hi ht
      rw [TC_some hW hh hr hi ht e] at hk
      rcases hk with hk | hk
      · obtain ⟨T, hT, hk⟩ := ofL_has hk
        obtain ⟨a, ha, rfl⟩ := List.mem_map.1 hT
        have := hr i t nm as hi ht e a ha
        exact ih a ((hW.app t nm as t1 e).1 a ha) (by omega) k hk
      · exact hk.elim
theorem nf_bound (hW : W.OK) (hc : Closed W r) (hh : Heads W r tm lo) (hr : Ranked W r tm rk) (hb : BoundOf W r tm lo rk bs) : NF bs := by
  refine ⟨hb.rise, fun p hp => ?_, fun p hp => ?_, fun p hp q hq hk => ?_, fun p hp m e => ?_⟩
  · obtain ⟨i, hi, e, _⟩ := (hb.mem p).1 hp
    exact (hW.hole i p.1 hi e).1
  · obtain ⟨i, hi, _, e, _⟩ := (hb.mem p).1 hp
    rw [e]; exact TC_one hW hh hr hi
  · obtain ⟨i, hi, _, e, _⟩ := (hb.mem p).1 hp
    obtain ⟨j, hj, e2, e3, e4⟩ := (hb.mem q).1 hq
    rw [e] at hk
    obtain ⟨l, hl, l1, l2⟩ := TC_has hW hh hr _ i hi (Nat.lt_succ_self _) _ hk
    obtain ⟨_, l0, h0, h1, h2⟩ := hh.none_ l hl l1
    rw [← l2] at h2
    have := hc.hole j l0 q.1 hj h0 e2 h2
    rw [h1] at this
    rw [TC_class this, TC_none l1, ← l2] at e3
    exact e4 e3
  · obtain ⟨i, hi, e2, e3, e4⟩ := (hb.mem p).1 hp
    rw [e] at e3 e4
    cases ht : tm (r i) with
    | some t =>
      obtain ⟨_, _, nm, as, e5⟩ := hh.some_ i t hi ht
      rw [TC_some hW hh hr hi ht e5] at e3; cases e3
    | none =>
      rw [TC_none ht] at e3
      injection e3 with e3
      obtain ⟨⟨h, h1, h2⟩, _⟩ := hh.none_ i hi ht
      rw [e2] at h1
      injection h1 with h1
      have : m ≠ p.1 := fun e6 => e4 (by rw [e6])
      omega
end
end
end Go.Proofs.YtgcbnndbeoekgaaDoor
end
section
/- what comes of equations hangs on their solutions alone; in plain Lean -/
namespace Go.Proofs.YtgcbnndbeoekgaaDoor
open Go Go.RowKit

/-- values that end -/
def FinI (u : IT) : Prop := ∃ d, ∀ p : List Nat, d ≤ p.length → u p = none
def FinS (θ : Nat → IT) : Prop := ∀ n, FinI (θ n)
theorem fin_leaf (n : Nat) : FinI (leaf n) := ⟨1, fun p hp => by cases p with | nil => simp at hp | cons _ _ => rfl⟩
theorem fin_evF {θ : Nat → IT} (h : FinS θ) : ∀ (K : Fo), ∃ d, ∀ i (p : List Nat), d ≤ p.length → evF θ K i p = none
  | .nil => ⟨0, fun _ _ _ => rfl⟩
  | .hole n r => by
    obtain ⟨a, ha⟩ := h n
    obtain ⟨b, hb⟩ := fin_evF h r
    refine ⟨a + b, fun i p hp => ?_⟩
    cases i with
    | zero => exact ha p (by omega)
    | succ i => exact hb i p (by omega)
  | .app nm k r => by
    obtain ⟨a, ha⟩ := fin_evF h k
    obtain ⟨b, hb⟩ := fin_evF h r
    refine ⟨a + 1 + b, fun i p hp => ?_⟩
    cases i with
    | zero =>
      cases p with
      | nil => have : a + 1 + b ≤ 0 := hp; omega
      | cons j q => exact ha j q (by simp at hp; omega)
    | succ i => exact hb i p (by omega)
theorem fin_ev {θ : Nat → IT} (h : FinS θ) (T : Fo) : FinI (ev θ T) := by
  obtain ⟨d, hd⟩ := fin_evF h T
  exact ⟨d, fun p hp => hd 0 p hp⟩
theorem fin_valB (bs : List (Nat × Fo)) : FinS (valB bs) := fun n => fin_ev fin_leaf (std bs n)
/-- what comes of equations -/
inductive Outc where
  | clash
  | occurs
  | long
  | ok (bs : List (Nat × Fo))
def Comes (E : List (Fo × Fo)) : Outc → Prop
  | .clash => ∀ θ, ¬ Sat θ E
  | .occurs => (∃ θ, Sat θ E) ∧ ∀ θ, FinS θ → ¬ Sat θ E
  | .long => ∃ bs, NF bs ∧ (∀ θ, Sat θ E ↔ SatB θ bs) ∧ ∃ p ∈ bs, 256 < p.2.size
  | .ok bs => NF bs ∧ (∀ θ, Sat θ E ↔ SatB θ bs) ∧ ∀ p ∈ bs, p.2.size ≤ 256
theorem Comes.sat_long {E : List (Fo × Fo)} {bs : List (Nat × Fo)} (h : NF bs) (hs : ∀ θ, Sat θ E ↔ SatB θ bs) : Sat (valB bs) E := (hs _).2 (valB_sat h)
/-- what comes hangs on the solutions alone -/
theorem Comes.same {E E' : List (Fo × Fo)} (hE : ∀ θ, Sat θ E ↔ Sat θ E') {o o' : Outc} (h : Comes E o) (h' : Comes E' o') : o = o' := by
  have no : ∀ {E E' : List (Fo × Fo)}, (∀ θ, Sat θ E ↔ Sat θ E') → ∀ {bs}, NF bs → (∀ θ, Sat θ E' ↔ SatB θ bs) → (∀ θ, FinS θ → ¬ Sat θ E) → False := fun hE _ hn hs hf => hf _ (fin_valB _) ((hE _).2 (Comes.sat_long hn hs))
  have eq : ∀ {bs bs'}, NF bs → NF bs' → (∀ θ, Sat θ E ↔ SatB θ bs) → (∀ θ, Sat θ E' ↔ SatB θ bs') → bs = bs' := fun h1 h2 h3 h4 => bound_uniq h1 h2 fun θ => (h3 θ).symm.trans ((hE θ).trans (h4 θ))
  have hE' := fun θ => (hE θ).symm
  cases o with
  | clash =>
    cases o' with
    | clash => rfl
    | occurs => obtain ⟨⟨θ, hθ⟩, _⟩ := h'; exact absurd ((hE θ).2 hθ) (h θ)
    | long => obtain ⟨bs, h1, h2, _⟩ := h'; exact (no hE h1 h2 (fun θ _ => h θ)).elim
    | ok bs => obtain ⟨h1, h2, _⟩ := h'; exact (no hE h1 h2 (fun θ _ => h θ)).elim
  | occurs =>
    cases o' with
    | clash => obtain ⟨⟨θ, hθ⟩, _⟩ := h; exact absurd ((hE θ).1 hθ) (h' θ)
    | occurs => rfl
    | long => obtain ⟨bs, h1, h2, _⟩ := h'; exact (no hE h1 h2 h.2).elim
    | ok bs => obtain ⟨h1, h2, _⟩ := h'; exact (no hE h1 h2 h.2).elim
  | long =>
    obtain ⟨bs, h1, h2, h3⟩ := h
    cases o' with
    | clash => exact (no hE' h1 h2 (fun θ _ => h' θ)).elim
    | occurs => exact (no hE' h1 h2 h'.2).elim
    | long => rfl
    | ok bs' =>
      obtain ⟨k1, k2, k3⟩ := h'
      have := eq h1 k1 h2 k2
      subst this
      obtain ⟨p, hp, hl⟩ := h3
      have := k3 p hp; omega
  | ok bs =>
    obtain ⟨h1, h2, h3⟩ := h
    cases o' with
    | clash => exact (no hE' h1 h2 (fun θ _ => h' θ)).elim
    | occurs => exact (no hE' h1 h2 h'.2).elim
    | long =>
      obtain ⟨bs', k1, k2, p, hp, hl⟩ := h'
      have := eq h1 k1 h2 k2
      subst this
      have := h3 p hp; omega
    | ok bs' =>
      obtain ⟨k1, k2, _⟩ := h'
      rw [eq h1 k1 h2 k2]
section
variable {W : WebT} {r : Nat → Nat} {tm : Nat → Option Nat} {lo rk : Nat → Nat} {E : List (Fo × Fo)} {bs : List (Nat × Fo)}
/-- two that have one value in each solution, and part: there is none -/
theorem comes_clash (hW : W.OK) {i j : Nat} {nm nm' : ByteArray} {as as' : List Nat} (hi : i < W.n) (hj : j < W.n) (h : ∀ θ, Sat θ E → W.val θ i = W.val θ j) (e : W.nd i = .app nm as) (e' : W.nd j = .app nm' as') (hne : nm ≠ nm' ∨ as.length ≠ as'.length) : Comes E .clash := by
  intro θ hθ
  have h1 := congrFun (h θ hθ) []
  rw [val_nil hW hi e, val_nil hW hj e'] at h1
  injection h1 with h1
  injection h1 with h1 h2
  rcases hne with hne | hne
  · exact hne h1
  · exact hne h2
/-- a class that has itself among what it is made of -/
inductive Part2 (W : WebT) (r : Nat → Nat) (tm : Nat → Option Nat) : Nat → Nat → Prop
  | one (i t a : Nat) (nm : ByteArray) (as : List Nat) : i < W.n → tm (r i) = some t → W.nd t = .app nm as → a ∈ as → Part2 W r tm i a
  | more (i t a k : Nat) (nm : ByteArray) (as : List Nat) : i < W.n → tm (r i) = some t → W.nd t = .app nm as → a ∈ as → Part2 W r tm a k → Part2 W r tm i k
theorem part2_path (hW : W.OK) (hh : Heads W r tm lo) (hs : Sound W r E) {θ : Nat → IT} (hθ : Sat θ E) {i k : Nat} (h : Part2 W r tm i k) : ∃ p : List Nat, p ≠ [] ∧ ∀ q, W.val θ i (p ++ q) = W.val θ k q := by
  have one : ∀ i t a nm as, i < W.n → tm (r i) = some t → W.nd t = .app nm as → a ∈ as → ∃ j, ∀ q, W.val θ i (j :: q) = W.val θ a q := by
    intro i t a nm as hi ht e ha
    obtain ⟨t1, t2, _⟩ := hh.some_ i t hi ht
    obtain ⟨j, hj, hja⟩ := List.getElem_of_mem ha
    refine ⟨j, fun q => ?_⟩
    rw [hs θ hθ i t hi t1 t2.symm, val_cons hW t1 e, List.getElem?_eq_getElem hj, hja]
  induction h with
  | one i t a nm as hi ht e ha =>
    obtain ⟨j, hj⟩ := one i t a nm as hi ht e ha
    exact ⟨[j], by simp, hj⟩
  | more i t a k nm as hi ht e ha _ ih =>
    obtain ⟨j, hj⟩ := one i t a nm as hi ht e ha
    obtain ⟨p, _, h2⟩ := ih
    exact ⟨j :: p, by simp, fun q => by rw [List.cons_append, hj, h2]⟩
theorem Part2.lt {i k : Nat} (h : Part2 W r tm i k) : i < W.n := by cases h <;> assumption
/-- they go round -/
theorem comes_occurs (hW : W.OK) (hc : Closed W r) (hh : Heads W r tm lo) (hs : Sound W r E) (hm : Meets W r E) {i k : Nat} (hk : k < W.n) (h : Part2 W r tm i k) (hr : r i = r k) : Comes E .occurs := by
  refine ⟨⟨_, sat_valU hW hc hh hm⟩, fun θ hf hθ => ?_⟩
  have hi := h.lt
  obtain ⟨p, hp, h2⟩ := part2_path hW hh hs hθ h
  have he := hs θ hθ i k hi hk hr
  have hlen : 0 < p.length := by cases p with | nil => exact absurd rfl hp | cons _ _ => simp
  have key : ∀ m : Nat, ∃ q : List Nat, m ≤ q.length ∧ W.val θ i q = W.val θ i [] := by
    intro m
    induction m with
    | zero => exact ⟨[], Nat.le_refl _, rfl⟩
    | succ m ih =>
      obtain ⟨q, h3, h4⟩ := ih
      refine ⟨p ++ q, by rw [List.length_append]; omega, ?_⟩
      rw [h2 q, ← he, h4]
  have hsome : W.val θ i [] ≠ none := by
    have : ∃ t nm as, tm (r i) = some t ∧ W.nd t = .app nm as := by
      cases h with
      | one _ t a nm as _ ht e _ => exact ⟨t, nm, as, ht, e⟩
      | more _ t a _ nm as _ ht e _ _ => exact ⟨t, nm, as, ht, e⟩
    obtain ⟨t, nm, as, ht, e⟩ := this
    obtain ⟨t1, t2, _⟩ := hh.some_ i t hi ht
    rw [hs θ hθ i t hi t1 t2.symm, val_nil hW t1 e]; simp
  obtain ⟨d, hd⟩ := fin_ev hf (W.tr i)
  obtain ⟨q, h3, h4⟩ := key d
  exact hsome (h4.symm.trans (hd q h3))
theorem comes_ok (hW : W.OK) (hc : Closed W r) (hh : Heads W r tm lo) (hr : Ranked W r tm rk) (hs : Sound W r E) (hm : Meets W r E) (hb : BoundOf W r tm lo rk bs) (hl : ∀ p ∈ bs, p.2.size ≤ 256) : Comes E (.ok bs) :=
  ⟨nf_bound hW hc hh hr hb, sat_bound hW hc hh hr hs hm hb, hl⟩
theorem comes_long (hW : W.OK) (hc : Closed W r) (hh : Heads W r tm lo) (hr : Ranked W r tm rk) (hs : Sound W r E) (hm : Meets W r E) (hb : BoundOf W r tm lo rk bs) (hl : ∃ p ∈ bs, 256 < p.2.size) : Comes E .long :=
  ⟨bs, nf_bound hW hc hh hr hb, sat_bound hW hc hh hr hs hm hb, hl⟩
end
end Go.Proofs.YtgcbnndbeoekgaaDoor
end
