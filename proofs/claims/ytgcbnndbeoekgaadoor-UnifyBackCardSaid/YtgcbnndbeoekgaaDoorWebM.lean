import Derived.Test.YtgcbnndbeoekgaaDoorOutc
import Derived.Test.YtgcbnndbeoekgaaDoorNodesX
set_option linter.unusedSimpArgs false
set_option linter.unusedVariables false
section
/- classes that are united, pair by pair; in plain Lean -/
namespace Go.Proofs.YtgcbnndbeoekgaaDoor
open Go Go.RowKit

/-- of one class, or still to meet -/
inductive Rel (r : Nat → Nat) (td : List (Nat × Nat)) : Nat → Nat → Prop
  | cls {i j : Nat} : r i = r j → Rel r td i j
  | pair {i j : Nat} : (i, j) ∈ td → Rel r td i j
  | symm {i j : Nat} : Rel r td i j → Rel r td j i
  | trans {i j k : Nat} : Rel r td i j → Rel r td j k → Rel r td i k
theorem Rel.mono {r r' : Nat → Nat} {td td' : List (Nat × Nat)} (h1 : ∀ i j, r i = r j → Rel r' td' i j) (h2 : ∀ i j, (i, j) ∈ td → Rel r' td' i j) {i j : Nat} (h : Rel r td i j) : Rel r' td' i j := by
  induction h with
  | cls h => exact h1 _ _ h
  | pair h => exact h2 _ _ h
  | symm _ ih => exact ih.symm
  | trans _ _ ih ih' => exact ih.trans ih'
theorem Rel.none {r : Nat → Nat} {i j : Nat} (h : Rel r [] i j) : r i = r j := by
  induction h with
  | cls h => exact h
  | pair h => cases h
  | symm _ ih => exact ih.symm
  | trans _ _ ih ih' => exact ih.trans ih'
/-- the least hole of a class, or 0 -/
def Low (W : WebT) (r : Nat → Nat) (lo : Nat → Nat) (c : Nat) : Prop :=
  (lo c = 0 ∧ ∀ j h, j < W.n → r j = c → W.nd j ≠ .hole h) ∨ (1 ≤ lo c ∧ (∃ j, j < W.n ∧ r j = c ∧ W.nd j = .hole (lo c)) ∧ ∀ j h, j < W.n → r j = c → W.nd j = .hole h → lo c ≤ h)
/-- the state of the program's web -/
structure USt (W : WebT) (r : Nat → Nat) (tm : Nat → Option Nat) (lo : Nat → Nat) (td : List (Nat × Nat)) (E : List (Fo × Fo)) : Prop where
  ok : W.OK
  lt : ∀ i, i < W.n → r i < W.n
  idem : ∀ i, i < W.n → r (r i) = r i
  hol : ∀ i j h, i < W.n → j < W.n → W.nd i = .hole h → W.nd j = .hole h → i = j
  some_ : ∀ i t, i < W.n → tm (r i) = some t → t < W.n ∧ r t = r i ∧ ∃ nm as, W.nd t = .app nm as
  none_ : ∀ i, i < W.n → tm (r i) = none → ∀ nm as, W.nd i ≠ .app nm as
  low : ∀ i, i < W.n → Low W r lo (r i)
  cong : ∀ (i t : Nat) (nm : ByteArray) (as : List Nat) (nm' : ByteArray) (as' : List Nat), i < W.n → W.nd i = .app nm as → tm (r i) = some t → W.nd t = .app nm' as' → nm = nm' ∧ as.length = as'.length ∧ ∀ (k a a' : Nat), as[k]? = some a → as'[k]? = some a' → Rel r td a a'
  sound : Sound W r E
  todo : ∀ p ∈ td, p.1 < W.n ∧ p.2 < W.n ∧ ∀ θ, Sat θ E → W.val θ p.1 = W.val θ p.2
section
variable {W : WebT} {r : Nat → Nat} {tm : Nat → Option Nat} {lo : Nat → Nat} {td : List (Nat × Nat)} {E : List (Fo × Fo)}
theorem USt.heads (h : USt W r tm lo td E) : Heads W r tm lo := by
  refine ⟨h.some_, fun i hi ht => ?_⟩
  have hn := h.none_ i hi ht
  have hl := h.low i hi
  cases e : W.nd i with
  | app nm as => exact absurd e (hn nm as)
  | hole x =>
    rcases hl with ⟨_, h2⟩ | ⟨_, ⟨j, h2, h3, h4⟩, h5⟩
    · exact absurd e (h2 i x hi rfl)
    · exact ⟨⟨x, rfl, h5 i x hi rfl e⟩, j, h2, h3, h4⟩
theorem USt.closed (h : USt W r tm lo [] E) : Closed W r := by
  refine ⟨fun i j x hi hj e1 e2 => by rw [h.hol i j x hi hj e1 e2], fun i j nm as nm' as' hi hj hr e1 e2 => ?_⟩
  cases ht : tm (r i) with
  | none => exact absurd e1 (h.none_ i hi ht nm as)
  | some t =>
    obtain ⟨_, _, nm2, as2, e3⟩ := h.some_ i t hi ht
    obtain ⟨a1, a2, a3⟩ := h.cong i t nm as nm2 as2 hi e1 ht e3
    obtain ⟨b1, b2, b3⟩ := h.cong j t nm' as' nm2 as2 hj e2 (by rw [← hr]; exact ht) e3
    refine ⟨a1.trans b1.symm, a2.trans b2.symm, fun k a a' h1 h2 => ?_⟩
    have hk : k < as2.length := by have := (List.getElem?_eq_some_iff.1 h1).1; omega
    have h3 := List.getElem?_eq_getElem hk
    exact (a3 k a _ h1 h3).none.trans (b3 k a' _ h2 h3).none.symm
/-- a pair of one class is done -/
theorem USt.skip {a b : Nat} (h : USt W r tm lo (td ++ [(a, b)]) E) (he : r a = r b) : USt W r tm lo td E := by
  refine ⟨h.ok, h.lt, h.idem, h.hol, h.some_, h.none_, h.low, fun i t nm as nm' as' hi e ht e' => ?_, h.sound, fun p hp => h.todo p (List.mem_append_left _ hp)⟩
  obtain ⟨c1, c2, c3⟩ := h.cong i t nm as nm' as' hi e ht e'
  refine ⟨c1, c2, fun k x x' h1 h2 => (c3 k x x' h1 h2).mono (fun _ _ => .cls) fun i j hij => ?_⟩
  rcases List.mem_append.1 hij with h3 | h3
  · exact .pair h3
  · simp only [List.mem_cons, List.not_mem_nil, or_false, Prod.mk.injEq] at h3
    rw [h3.1, h3.2]; exact .cls he
def uniR (r : Nat → Nat) (x y : Nat) (i : Nat) : Nat := if r i = y then x else r i
def uniT (tm : Nat → Option Nat) (x y : Nat) (c : Nat) : Option Nat := if c = x then (match tm x with | some s => some s | none => tm y) else tm c
def uniL (lo : Nat → Nat) (x y : Nat) (c : Nat) : Nat := if c = x then (if 0 < lo y ∧ (lo x = 0 ∨ lo y < lo x) then lo y else lo x) else lo c
/-- the pairs of two terms' arguments -/
def argP (as as' : List Nat) : List (Nat × Nat) := List.zip as as'
theorem uni_low {x y : Nat} (hx : Low W r lo x) (hy : Low W r lo y) (hxy : x ≠ y) : Low W (uniR r x y) (uniL lo x y) x := by
  have hcls : ∀ j, uniR r x y j = x ↔ r j = x ∨ r j = y := fun j => by
    unfold uniR
    by_cases h : r j = y
    · rw [if_pos h]; exact ⟨fun _ => .inr h, fun _ => rfl⟩
    · rw [if_neg h]; exact ⟨.inl, fun h2 => h2.resolve_right h⟩
  have hl : uniL lo x y x = if 0 < lo y ∧ (lo x = 0 ∨ lo y < lo x) then lo y else lo x := by unfold uniL; rw [if_pos rfl]
  unfold Low
  rw [hl]
  rcases hx with ⟨x1, x2⟩ | ⟨x1, ⟨jx, x2, x3, x4⟩, x5⟩ <;> rcases hy with ⟨y1, y2⟩ | ⟨y1, ⟨jy, y2, y3, y4⟩, y5⟩
  · rw [if_neg (by omega)]
    refine .inl ⟨x1, fun j h hj hc e => ?_⟩
    rcases (hcls j).1 hc with h1 | h1
    · exact x2 j h hj h1 e
    · exact y2 j h hj h1 e
  · rw [if_pos ⟨by omega, .inl x1⟩]
    refine .inr ⟨y1, ⟨jy, y2, (hcls jy).2 (.inr y3), y4⟩, fun j h hj hc e => ?_⟩
    rcases (hcls j).1 hc with h1 | h1
    · exact absurd e (x2 j h hj h1)
    · exact y5 j h hj h1 e
  · rw [if_neg (by omega)]
    refine .inr ⟨x1, ⟨jx, x2, (hcls jx).2 (.inl x3), x4⟩, fun j h hj hc e => ?_⟩
    rcases (hcls j).1 hc with h1 | h1
    · exact x5 j h hj h1 e
    · exact absurd e (y2 j h hj h1)
  · by_cases hlt : lo y < lo x
    · rw [if_pos ⟨by omega, .inr hlt⟩]
      refine .inr ⟨y1, ⟨jy, y2, (hcls jy).2 (.inr y3), y4⟩, fun j h hj hc e => ?_⟩
      rcases (hcls j).1 hc with h1 | h1
      · have := x5 j h hj h1 e; omega
      · exact y5 j h hj h1 e
    · rw [if_neg (by omega)]
      refine .inr ⟨x1, ⟨jx, x2, (hcls jx).2 (.inl x3), x4⟩, fun j h hj hc e => ?_⟩
      rcases (hcls j).1 hc with h1 | h1
      · exact x5 j h hj h1 e
      · have := y5 j h hj h1 e; omega
/-- two classes become one -/
theorem USt.unite {a b x y : Nat} {more : List (Nat × Nat)} (h : USt W r tm lo (td ++ [(a, b)]) E) (hx : r a = x) (hy : r b = y) (hxy : x ≠ y)
    (hm : ∀ s t, tm x = some s → tm y = some t → ∃ nm as as', W.nd s = .app nm as ∧ W.nd t = .app nm as' ∧ as.length = as'.length ∧ more = argP as as') (hm0 : (tm x = none ∨ tm y = none) → more = []) :
    USt W (uniR r x y) (uniT tm x y) (uniL lo x y) (td ++ more) E := by
  have hab := h.todo (a, b) (List.mem_append_right _ (by simp))
  have ha : a < W.n := hab.1
  have hb : b < W.n := hab.2.1
  have hxl : x < W.n := by rw [← hx]; exact h.lt a ha
  have hyl : y < W.n := by rw [← hy]; exact h.lt b hb
  have hxx : r x = x := by rw [← hx]; exact h.idem a ha
  have hyy : r y = y := by rw [← hy]; exact h.idem b hb
  have hval : ∀ θ, Sat θ E → W.val θ x = W.val θ y := fun θ hθ => by
    have h1 := h.sound θ hθ x a hxl ha (by rw [hxx, hx])
    have h2 := h.sound θ hθ y b hyl hb (by rw [hyy, hy])
    rw [h1, h2]; exact hab.2.2 θ hθ
  have hr' : ∀ i, r i ≠ y → uniR r x y i = r i := fun i h => if_neg h
  have hry : ∀ i, r i = y → uniR r x y i = x := fun i h => if_pos h
  have hcl : ∀ i j, r i = r j → uniR r x y i = uniR r x y j := fun i j e => by unfold uniR; rw [e]
  have hne : ∀ i, uniR r x y i ≠ y := fun i => by
    by_cases e : r i = y
    · rw [hry i e]; exact hxy
    · rw [hr' i e]; exact e
  have hclass : ∀ i, uniR r x y i = x → r i = x ∨ r i = y := fun i e => by
    by_cases e2 : r i = y
    · exact .inr e2
    · rw [hr' i e2] at e; exact .inl e
  have hT : ∀ c, c ≠ x → uniT tm x y c = tm c := fun c e => if_neg e
  have hTx : uniT tm x y x = (match tm x with | some s => some s | none => tm y) := if_pos rfl
  have mono : ∀ {i j}, Rel r (td ++ [(a, b)]) i j → Rel (uniR r x y) (td ++ more) i j := fun {i j} h0 => h0.mono (fun i j e => .cls (hcl i j e)) fun i j hij => by
    rcases List.mem_append.1 hij with h3 | h3
    · exact .pair (List.mem_append_left _ h3)
    · simp only [List.mem_cons, List.not_mem_nil, or_false, Prod.mk.injEq] at h3
      refine .cls ?_
      rw [h3.1, h3.2, hry b hy]
      by_cases e : r a = y
      · rw [hry a e]
      · rw [hr' a e, hx]
  refine ⟨h.ok, fun i hi => ?_, fun i hi => ?_, h.hol, fun i t hi ht => ?_, fun i hi ht nm as e => ?_, fun i hi => ?_, fun i t nm as nm' as' hi e ht e' => ?_, fun θ hθ i j hi hj e => ?_, fun p hp => ?_⟩
  · by_cases e : r i = y
    · rw [hry i e]; exact hxl
    · rw [hr' i e]; exact h.lt i hi
  · by_cases e : r i = y
    · rw [hry i e, hr' x (by rw [hxx]; exact hxy), hxx]
    · rw [hr' i e, hr' (r i) (by rw [h.idem i hi]; exact e), h.idem i hi]
  · by_cases ex : uniR r x y i = x
    · rw [ex, hTx] at ht
      cases e1 : tm x with
      | some s =>
        rw [e1] at ht; injection ht with ht; subst ht
        obtain ⟨t1, t2, t3⟩ := h.some_ x s hxl (by rw [hxx]; exact e1)
        exact ⟨t1, by rw [hr' s (by rw [t2, hxx]; exact hxy), t2, hxx, ex], t3⟩
      | none =>
        rw [e1] at ht
        obtain ⟨t1, t2, t3⟩ := h.some_ y t hyl (by rw [hyy]; exact ht)
        exact ⟨t1, by rw [hry t (by rw [t2, hyy]), ex], t3⟩
    · have e1 : r i ≠ y := fun e => ex (hry i e)
      rw [hT _ ex, hr' i e1] at ht
      rw [hr' i e1] at ex ⊢
      obtain ⟨t1, t2, t3⟩ := h.some_ i t hi ht
      exact ⟨t1, by rw [hr' t (by rw [t2]; exact e1), t2], t3⟩
  · by_cases ex : uniR r x y i = x
    · rw [ex, hTx] at ht
      cases e1 : tm x with
      | some s => rw [e1] at ht; cases ht
      | none =>
        rw [e1] at ht
        rcases hclass i ex with e2 | e2
        · exact h.none_ i hi (by rw [e2]; exact e1) nm as e
        · exact h.none_ i hi (by rw [e2]; exact ht) nm as e
    · have e1 : r i ≠ y := fun e => ex (hry i e)
      rw [hT _ ex, hr' i e1] at ht
      exact h.none_ i hi ht nm as e
  · by_cases ex : uniR r x y i = x
    · rw [ex]
      have h1 := h.low x hxl
      have h2 := h.low y hyl
      rw [hxx] at h1
      rw [hyy] at h2
      exact uni_low h1 h2 hxy
    · have e1 : r i ≠ y := fun e => ex (hry i e)
      have h1 := h.low i hi
      have hl : uniL lo x y (uniR r x y i) = lo (r i) := by rw [hr' i e1]; exact if_neg (by rw [← hr' i e1]; exact ex)
      have hc : ∀ j, uniR r x y j = uniR r x y i ↔ r j = r i := fun j => by
        rw [hr' i e1]
        by_cases e2 : r j = y
        · rw [hry j e2]; exact ⟨fun e3 => absurd (by rw [hr' i e1]; exact e3.symm) ex, fun e3 => absurd (e3.symm.trans e2) e1⟩
        · rw [hr' j e2]
      unfold Low at h1 ⊢
      rw [hl]
      rcases h1 with ⟨l1, l2⟩ | ⟨l1, ⟨j, l2, l3, l4⟩, l5⟩
      · exact .inl ⟨l1, fun j k hj hcj => l2 j k hj ((hc j).1 hcj)⟩
      · exact .inr ⟨l1, ⟨j, l2, (hc j).2 l3, l4⟩, fun j k hj hcj => l5 j k hj ((hc j).1 hcj)⟩
  · by_cases ex : uniR r x y i = x
    · rw [ex, hTx] at ht
      cases e1 : tm x with
      | none =>
        rw [e1] at ht
        rcases hclass i ex with e2 | e2
        · exact absurd e (h.none_ i hi (by rw [e2]; exact e1) nm as)
        · obtain ⟨c1, c2, c3⟩ := h.cong i t nm as nm' as' hi e (by rw [e2]; exact ht) e'
          exact ⟨c1, c2, fun k p p' h1 h2 => mono (c3 k p p' h1 h2)⟩
      | some s =>
        rw [e1] at ht; injection ht with ht; subst ht
        rcases hclass i ex with e2 | e2
        · obtain ⟨c1, c2, c3⟩ := h.cong i s nm as nm' as' hi e (by rw [e2]; exact e1) e'
          exact ⟨c1, c2, fun k p p' h1 h2 => mono (c3 k p p' h1 h2)⟩
        · cases e3 : tm y with
          | none => exact absurd e (h.none_ i hi (by rw [e2]; exact e3) nm as)
          | some t =>
            obtain ⟨nm2, bs, bs', f1, f2, f3, f4⟩ := hm s t e1 e3
            rw [e'] at f1
            injection f1 with f1 f5
            subst f1; subst f5
            obtain ⟨c1, c2, c3⟩ := h.cong i t nm as nm' bs' hi e (by rw [e2]; exact e3) f2
            refine ⟨c1, by omega, fun k p p' h1 h2 => ?_⟩
            have hk : k < bs'.length := by have := (List.getElem?_eq_some_iff.1 h1).1; omega
            have h3 := List.getElem?_eq_getElem hk
            refine (mono (c3 k p _ h1 h3)).trans (.symm (.pair (List.mem_append_right _ ?_)))
            rw [f4]
            unfold argP
            have hz : (List.zip as' bs')[k]? = some (p', bs'[k]) := by
              rw [List.getElem?_zip_eq_some]; exact ⟨h2, h3⟩
            exact List.mem_of_getElem? hz
    · have e1 : r i ≠ y := fun e => ex (hry i e)
      rw [hT _ ex, hr' i e1] at ht
      obtain ⟨c1, c2, c3⟩ := h.cong i t nm as nm' as' hi e ht e'
      exact ⟨c1, c2, fun k p p' h1 h2 => mono (c3 k p p' h1 h2)⟩
  · have one : ∀ i, i < W.n → W.val θ i = W.val θ (uniR r x y i) := fun i hi => by
      by_cases e2 : r i = y
      · rw [hry i e2, hval θ hθ]
        exact h.sound θ hθ i y hi hyl (by rw [e2, hyy])
      · rw [hr' i e2]
        exact h.sound θ hθ i (r i) hi (h.lt i hi) (h.idem i hi).symm
    rw [one i hi, one j hj, e]
  · rcases List.mem_append.1 hp with h1 | h1
    · exact h.todo p (List.mem_append_left _ h1)
    · cases e1 : tm x with
      | none => rw [hm0 (.inl e1)] at h1; cases h1
      | some s =>
        cases e2 : tm y with
        | none => rw [hm0 (.inr e2)] at h1; cases h1
        | some t =>
          obtain ⟨nm, as, as', f1, f2, f3, f4⟩ := hm s t e1 e2
          obtain ⟨s1, s2, _⟩ := h.some_ x s hxl (by rw [hxx]; exact e1)
          obtain ⟨t1, t2, _⟩ := h.some_ y t hyl (by rw [hyy]; exact e2)
          rw [f4] at h1
          obtain ⟨k, hk, hke⟩ := List.getElem_of_mem h1
          unfold argP at hk hke
          have hk2 : k < as.length ∧ k < as'.length := by rw [List.length_zip] at hk; omega
          rw [List.getElem_zip] at hke
          have g1 := (h.ok.app s nm as s1 f1).1 _ (List.getElem_mem hk2.1)
          have g2 := (h.ok.app t nm as' t1 f2).1 _ (List.getElem_mem hk2.2)
          rw [← hke]
          refine ⟨g1, g2, fun θ hθ => ?_⟩
          have v1 : W.val θ s = W.val θ t := by
            rw [h.sound θ hθ s x s1 hxl s2, h.sound θ hθ t y t1 hyl t2]; exact hval θ hθ
          funext q
          have v2 := congrFun v1 (k :: q)
          rw [val_cons h.ok s1 f1, val_cons h.ok t1 f2, List.getElem?_eq_getElem hk2.1, List.getElem?_eq_getElem hk2.2] at v2
          exact v2
/-- two terms that part -/
theorem USt.clash {a b x y s t : Nat} (h : USt W r tm lo (td ++ [(a, b)]) E) (hx : r a = x) (hy : r b = y) (hs : tm x = some s) (ht : tm y = some t) {nm nm' : ByteArray} {as as' : List Nat} (e : W.nd s = .app nm as) (e' : W.nd t = .app nm' as') (hne : nm ≠ nm' ∨ as.length ≠ as'.length) : Comes E .clash := by
  have hab := h.todo (a, b) (List.mem_append_right _ (by simp))
  obtain ⟨s1, s2, _⟩ := h.some_ a s hab.1 (by rw [hx]; exact hs)
  obtain ⟨t1, t2, _⟩ := h.some_ b t hab.2.1 (by rw [hy]; exact ht)
  refine comes_clash h.ok s1 t1 (fun θ hθ => ?_) e e' hne
  rw [h.sound θ hθ s a s1 hab.1 s2, h.sound θ hθ t b t1 hab.2.1 t2]
  exact hab.2.2 θ hθ
end
end Go.Proofs.YtgcbnndbeoekgaaDoor
end
section
/- classes laid out, and when they can be; in plain Lean -/
namespace Go.Proofs.YtgcbnndbeoekgaaDoor
open Go Go.RowKit

mutual
/-- what a class stands for -/
inductive Lay (W : WebT) (r : Nat → Nat) (tm : Nat → Option Nat) (lo : Nat → Nat) : Nat → Fo → Prop
  | hole (c : Nat) : tm c = none → Lay W r tm lo c (.hole (lo c) .nil)
  | app (c t : Nat) (nm : ByteArray) (as : List Nat) (Ls : List Fo) : tm c = some t → W.nd t = .app nm as → LayL W r tm lo as Ls → Lay W r tm lo c (.app nm (ofL Ls) .nil)
inductive LayL (W : WebT) (r : Nat → Nat) (tm : Nat → Option Nat) (lo : Nat → Nat) : List Nat → List Fo → Prop
  | nil : LayL W r tm lo [] []
  | cons (a : Nat) (as : List Nat) (T : Fo) (Ls : List Fo) : Lay W r tm lo (r a) T → LayL W r tm lo as Ls → LayL W r tm lo (a :: as) (T :: Ls)
end
section
variable {W : WebT} {r : Nat → Nat} {tm : Nat → Option Nat} {lo : Nat → Nat}
theorem LayL.len {as : List Nat} {Ls : List Fo} (h : LayL W r tm lo as Ls) : as.length = Ls.length := by
  induction as generalizing Ls with
  | nil => cases h; rfl
  | cons a as ih =>
    cases h with
    | cons _ _ T Ls h1 h2 => simp [ih h2]
theorem LayL.at_ {as : List Nat} {Ls : List Fo} (h : LayL W r tm lo as Ls) : ∀ a ∈ as, ∃ T ∈ Ls, Lay W r tm lo (r a) T := by
  induction as generalizing Ls with
  | nil => intro a ha; cases ha
  | cons x as ih =>
    cases h with
    | cons _ _ T Ls h1 h2 =>
      intro a ha
      rcases List.mem_cons.1 ha with e | e
      · subst e; exact ⟨T, List.mem_cons_self .., h1⟩
      · obtain ⟨U, hU, h3⟩ := ih h2 a e
        exact ⟨U, List.mem_cons_of_mem _ hU, h3⟩
theorem Lay.one {c : Nat} {T : Fo} (h : Lay W r tm lo c T) : T.one := by cases h <;> exact rfl
theorem Lay.size_pos {c : Nat} {T : Fo} (h : Lay W r tm lo c T) : 1 ≤ T.size := Fo.one_size h.one
/-- it stands for one thing alone -/
theorem Lay.uniq : ∀ (d : Nat) {c : Nat} {T U : Fo}, T.size ≤ d → Lay W r tm lo c T → Lay W r tm lo c U → T = U := by
  intro d
  induction d with
  | zero => intro c T U hd h; have := h.size_pos; omega
  | succ d ih =>
    intro c T U hd h h'
    cases h with
    | hole _ e =>
      cases h' with
      | hole _ _ => rfl
      | app _ t nm as Ls e2 _ _ => rw [e] at e2; cases e2
    | app _ t nm as Ls e e1 hl =>
      cases h' with
      | hole _ e2 => rw [e] at e2; cases e2
      | app _ t' nm' as' Ls' e2 e3 hl' =>
        rw [e] at e2
        injection e2 with e2
        subst e2
        rw [e1] at e3
        injection e3 with e3 e4
        subst e3; subst e4
        have hsz : ∀ X ∈ Ls, X.size ≤ d := fun X hX => by
          have := ofL_size hX
          have e5 : (Fo.app nm (ofL Ls) .nil).size = 1 + (ofL Ls).size + 0 := rfl
          omega
        have key : ∀ (as : List Nat) (L1 L2 : List Fo), (∀ X ∈ L1, X.size ≤ d) → LayL W r tm lo as L1 → LayL W r tm lo as L2 → L1 = L2 := by
          intro as
          induction as with
          | nil => intro L1 L2 _ h1 h2; cases h1; cases h2; rfl
          | cons a as ih2 =>
            intro L1 L2 hs h1 h2
            cases h1 with
            | cons _ _ T1 M1 a1 a2 =>
              cases h2 with
              | cons _ _ T2 M2 b1 b2 =>
                rw [ih (hs T1 (List.mem_cons_self ..)) a1 b1, ih2 M1 M2 (fun X hX => hs X (List.mem_cons_of_mem _ hX)) a2 b2]
        rw [key as Ls Ls' hsz hl hl']
open Classical in
noncomputable def layT (W : WebT) (r : Nat → Nat) (tm : Nat → Option Nat) (lo : Nat → Nat) (c : Nat) : Fo := if h : ∃ T, Lay W r tm lo c T then h.choose else .nil
theorem layT_is {c : Nat} {T : Fo} (h : Lay W r tm lo c T) : layT W r tm lo c = T := by
  have hex : ∃ T, Lay W r tm lo c T := ⟨T, h⟩
  unfold layT
  rw [dif_pos hex]
  exact Lay.uniq _ (Nat.le_refl _) hex.choose_spec h
theorem ranked_lay (hl : ∀ i, i < W.n → ∃ T, Lay W r tm lo (r i) T) : Ranked W r tm (fun c => (layT W r tm lo c).size) := by
  intro i t nm as hi ht e a ha
  obtain ⟨T, hT⟩ := hl i hi
  show (layT W r tm lo (r a)).size < (layT W r tm lo (r i)).size
  rw [layT_is hT]
  cases hT with
  | hole _ e2 => rw [ht] at e2; cases e2
  | app _ t' nm' as' Ls e2 e3 hL =>
    rw [ht] at e2
    injection e2 with e2
    subst e2
    rw [e] at e3
    injection e3 with e3 e4
    subst e3; subst e4
    obtain ⟨U, hU, h2⟩ := hL.at_ a ha
    rw [layT_is h2]
    have := ofL_size hU
    show U.size < 1 + (ofL Ls).size + 0
    omega
theorem TC_lay (hW : W.OK) (hh : Heads W r tm lo) (hl : ∀ i, i < W.n → ∃ T, Lay W r tm lo (r i) T) : ∀ (d i : Nat), i < W.n → (layT W r tm lo (r i)).size ≤ d → Lay W r tm lo (r i) (TC W r tm lo (fun c => (layT W r tm lo c).size) i) := by
  have hr := ranked_lay hl
  intro d
  induction d with
  | zero =>
    intro i hi hd
    obtain ⟨T, hT⟩ := hl i hi
    rw [layT_is hT] at hd
    have := hT.size_pos; omega
  | succ d ih =>
    intro i hi hd
    cases ht : tm (r i) with
    | none => rw [TC_none ht]; exact .hole _ ht
    | some t =>
      obtain ⟨t1, t2, nm, as, e⟩ := hh.some_ i t hi ht
      rw [TC_some hW hh hr hi ht e]
      refine .app _ t nm as _ ht e ?_
      have hin : ∀ a ∈ as, a < W.n ∧ (layT W r tm lo (r a)).size ≤ d := fun a ha => ⟨(hW.app t nm as t1 e).1 a ha, by have := hr i t nm as hi ht e a ha; simp only at this; omega⟩
      have key : ∀ l : List Nat, (∀ a ∈ l, a ∈ as) → LayL W r tm lo l (l.map (TC W r tm lo (fun c => (layT W r tm lo c).size))) := by
        intro l
        induction l with
        | nil => intro _; exact .nil
        | cons x l ih2 =>
          intro hx
          have h1 := hin x (hx x (List.mem_cons_self ..))
          exact .cons _ _ _ _ (ih x h1.1 h1.2) (ih2 fun a ha => hx a (List.mem_cons_of_mem _ ha))
      exact key as fun a h => h
theorem TC_is (hW : W.OK) (hh : Heads W r tm lo) (hl : ∀ i, i < W.n → ∃ T, Lay W r tm lo (r i) T) {i : Nat} (hi : i < W.n) {T : Fo} (h : Lay W r tm lo (r i) T) : TC W r tm lo (fun c => (layT W r tm lo c).size) i = T :=
  Lay.uniq _ (Nat.le_refl _) (TC_lay hW hh hl _ i hi (Nat.le_refl _)) h
/-- the bound, as it is listed: its holes rise -/
structure Listed (W : WebT) (r : Nat → Nat) (tm : Nat → Option Nat) (lo : Nat → Nat) (bs : List (Nat × Fo)) : Prop where
  rise : bs.Pairwise (fun p q => p.1 < q.1)
  mem : ∀ p, p ∈ bs ↔ ∃ i, i < W.n ∧ W.nd i = .hole p.1 ∧ Lay W r tm lo (r i) p.2 ∧ p.2 ≠ .hole p.1 .nil
theorem Listed.bound {bs : List (Nat × Fo)} (h : Listed W r tm lo bs) (hW : W.OK) (hh : Heads W r tm lo) (hl : ∀ i, i < W.n → ∃ T, Lay W r tm lo (r i) T) : BoundOf W r tm lo (fun c => (layT W r tm lo c).size) bs := by
  refine ⟨h.rise, fun p => (h.mem p).trans ⟨fun ⟨i, hi, e, e2, e3⟩ => ⟨i, hi, e, (TC_is hW hh hl hi e2).symm, e3⟩, fun ⟨i, hi, e, e2, e3⟩ => ⟨i, hi, e, ?_, e3⟩⟩⟩
  rw [e2]
  exact TC_lay hW hh hl _ i hi (Nat.le_refl _)
/-- they go round -/
def Cyc (W : WebT) (r : Nat → Nat) (tm : Nat → Option Nat) : Prop := ∃ i k, k < W.n ∧ Part2 W r tm i k ∧ r i = r k
/-- a class is reached from a node -/
def ReachC (W : WebT) (r : Nat → Nat) (tm : Nat → Option Nat) (i g : Nat) : Prop := r i = g ∨ ∃ k, k < W.n ∧ Part2 W r tm i k ∧ r k = g
theorem ReachC.up {i t a g : Nat} {nm : ByteArray} {as : List Nat} (hi : i < W.n) (ht : tm (r i) = some t) (e : W.nd t = .app nm as) (ha : a ∈ as) (hal : a < W.n) (h : ReachC W r tm a g) : ∃ k, k < W.n ∧ Part2 W r tm i k ∧ r k = g := by
  rcases h with h | ⟨k, hk, h1, h2⟩
  · exact ⟨a, hal, .one i t a nm as hi ht e ha, h⟩
  · exact ⟨k, hk, .more i t a k nm as hi ht e ha h1, h2⟩
end
end Go.Proofs.YtgcbnndbeoekgaaDoor
end
section
/- the program's web in memory: its nodes, its holes' map, what still has to meet -/
namespace Go.Proofs.YtgcbnndbeoekgaaDoor
open Go Go.RowKit Go.Maps

/-- a node of the web; av: the slice of its arguments -/
structure PN where
  hole : Nat
  nm : ByteArray
  na : Nat
  av : Value
  args : List Nat
  up : Nat
  term : Int
  low : Nat
  seen : Nat
  size : Nat
def PN.cells (x : PN) : List Value := [.int .i64 x.hole, .string x.nm, .int .i64 x.na, x.av, .int .i64 x.up, .int .i64 x.term, .int .i64 x.low, .int .i64 x.seen, .int .i64 x.size]
theorem PN.cells_len : ∀ x : PN, x.cells.length = 9 := fun _ => rfl
def natCells (as : List Nat) : List Value := as.map fun a : Nat => Value.int .i64 a
def pairCells (p : Nat × Nat) : List Value := [.int .i64 p.1, .int .i64 p.2]
theorem pairCells_len : ∀ p : Nat × Nat, (pairCells p).length = 2 := fun _ => rfl
/-- the web's row of nodes, and each node's arguments -/
structure NodesM (w : World) (B : Nat) (v : Value) (l : List PN) : Prop where
  row : w.ownsRow B 103 9 v l.length (l.flatMap PN.cells)
  args : ∀ x ∈ l, w.ownsRow B 3 1 x.av x.args.length (natCells x.args)
section
variable {w w' : World} {B : Nat} {v : Value} {l : List PN}
theorem NodesM.nil (w : World) (B : Nat) : NodesM w B (.slice none 0 0) [] := ⟨World.ownsRow_nil _ _ _ _, fun x h => by cases h⟩
/-- a store into a block of another type, and whatever else lets nodes and numbers stand -/
theorem NodesM.kept (h : NodesM w B v l) {row : Option Nat} (hg : w.grownBy w' row) (hr : ∀ b, row = some b → v.ownBlock ≠ some b ∧ ∀ x ∈ l, x.av.ownBlock ≠ some b) : NodesM w' B v l := by
  refine ⟨h.row.kept hg ?_, fun x hx => (h.args x hx).kept hg ?_⟩
  · cases hb : v.ownBlock with
    | none => exact .inl rfl
    | some b => exact .inr fun e => (hr b e.symm).1 hb
  · cases hb : x.av.ownBlock with
    | none => exact .inl rfl
    | some b => exact .inr fun e => (hr b e.symm).2 x hx hb
theorem NodesM.still (h : NodesM w B v l) (hg : w.grownBy w' none) : NodesM w' B v l := h.kept hg (fun b e => by cases e)
theorem NodesM.below (h : NodesM w B v l) (hb : Below w.heap.size w w') : NodesM w' B v l := h.still ⟨hb.os, hb.tape, hb.output, hb.size, fun k hk _ => hb.block k hk⟩
theorem NodesM.alloc (h : NodesM w B v l) (o : Obj) : NodesM (w.alloc o) B v l := h.still (World.grownBy_alloc w o none)
theorem NodesM.drewN (h : NodesM w B v l) (n : Nat) : NodesM (w.drewN n) B v l := ⟨h.row, h.args⟩
theorem NodesM.other (h : NodesM w B v l) {g i : Nat} {t : TypeId} {cs : Array Value} (hb : Blk w g t cs) (n1 : t ≠ 103) (n2 : t ≠ 3) (u : Value) : NodesM (w.setCell ⟨g, i, none⟩ u) B v l := by
  refine h.kept (row := some g) ⟨rfl, rfl, rfl, by simp, fun k hk hne => Below.heap_setCell _ _ _ _ (fun e => hne (by rw [e]))⟩ fun b e => ?_
  cases e
  exact ⟨own_ne_blkX h.row hb n1, fun x hx => own_ne_blkX (h.args x hx) hb n2⟩
theorem NodesM.shape (h : NodesM w B v l) : ∃ A c, v = .slice A l.length c := own_shape h.row
theorem NodesM.lt (h : NodesM w B v l) : ∀ b, v.ownBlock = some b → B ≤ b ∧ b < w.heap.size := h.row.lt
/-- a node in memory -/
theorem NodesM.at_ (h : NodesM w B v l) {i : Nat} (hi : i < l.length) : ∃ g c, v = .slice (some ⟨g, 0, none⟩) l.length c ∧ B ≤ g ∧ g < w.heap.size ∧ l.length ≤ c ∧ c ≤ maxLen ∧
    ∀ k, k < 9 → w.cell? ⟨g, i * 9 + k, none⟩ = l[i].cells[k]? ∧ w.frozen? ⟨g, i * 9 + k, none⟩ = false := by
  have hlt := h.row.lt
  have hcells := fun g => h.row.cells (g := g)
  rcases h.row.2 with ⟨rfl, hn⟩ | ⟨g, cap, cur, rfl, hb, hh, hc1, hc2, _⟩
  · omega
  · refine ⟨g, cap, rfl, hb, (hlt g rfl).2, hc1, hc2, fun k hk => ⟨?_, by simp [World.frozen?, hh]⟩⟩
    have hl : l[i].cells.length = 9 := rfl
    have hu : l[i].cells[k]? = some (l[i].cells[k]'(by omega)) := List.getElem?_eq_getElem _
    have := hcells g rfl (i * 9 + k) _ (by rw [flat_at PN.cells_len l i k hi hk]; exact hu)
    rw [add_some, Nat.zero_add] at this
    rw [this, hu]
theorem flat_set9 : ∀ (l : List PN) (i k : Nat) (hi : i < l.length) (u : Value) (x : PN), k < 9 → l[i].cells.set k u = x.cells → (l.flatMap PN.cells).set (i * 9 + k) u = (l.set i x).flatMap PN.cells
  | [], i, _, hi, _, _, _, _ => absurd hi (by simp)
  | y :: r, 0, k, _, u, x, hk, e => by
    simp only [List.getElem_cons_zero] at e
    rw [List.flatMap_cons, List.set_cons_zero, List.flatMap_cons, ← e, List.set_append_left _ _ (by rw [PN.cells_len]; omega)]
    simp
  | y :: r, i + 1, k, hi, u, x, hk, e => by
    rw [List.flatMap_cons, List.set_cons_succ, List.flatMap_cons, List.set_append_right _ _ (by rw [PN.cells_len]; omega), PN.cells_len, show (i + 1) * 9 + k - 9 = i * 9 + k by omega, flat_set9 r i k (by simpa using hi) u x hk (by simpa using e)]
/-- one of a node's cells is written -/
theorem NodesM.set_ {g n c : Nat} (h : NodesM w B (.slice (some ⟨g, 0, none⟩) n c) l) {i : Nat} (hi : i < l.length) {k : Nat} (hk : k < 9) {u : Value} {x : PN} (hx : l[i].cells.set k u = x.cells) (ha : w.ownsRow B 3 1 x.av x.args.length (natCells x.args)) :
    NodesM (w.setCell ⟨g, i * 9 + k, none⟩ u) B (.slice (some ⟨g, 0, none⟩) n c) (l.set i x) := by
  have hn : l.length = n := by
    obtain ⟨A, c', e⟩ := h.shape
    injection e with _ e _
    exact e.symm
  subst hn
  obtain ⟨s1, s2⟩ := h.row.stored (i * 9 + k) u
  have keep : ∀ y : PN, w.ownsRow B 3 1 y.av y.args.length (natCells y.args) → (w.setCell ⟨g, i * 9 + k, none⟩ u).ownsRow B 3 1 y.av y.args.length (natCells y.args) := fun y hy => by
    refine hy.kept s2 ?_
    cases hb : y.av.ownBlock with
    | none => exact .inl rfl
    | some b => exact .inr fun e => own_type_ne hy h.row (by decide) b hb (by rw [e]; rfl)
  refine ⟨by rw [flat_set9 l i k hi u x hk hx] at s1; simpa using s1, fun y hy => ?_⟩
  obtain ⟨j, hj, rfl⟩ := List.getElem_of_mem hy
  have hj2 : j < l.length := by simpa using hj
  by_cases e : i = j
  · subst e; rw [List.getElem_set_self]; exact keep x ha
  · rw [List.getElem_set_ne e]; exact keep _ (h.args _ (List.getElem_mem hj2))
end
/-! ### Who stands for whom -/
/-- up leads to r, and goes down in d -/
structure UF (d : Nat → Nat) (n : Nat) (up : Nat → Nat) (r : Nat → Nat) : Prop where
  lt : ∀ i, i < n → up i < n
  cls : ∀ i, i < n → r (up i) = r i
  top : ∀ i, i < n → up (r i) = r i
  rlt : ∀ i, i < n → r i < n
  root : ∀ i, i < n → up i = i → r i = i
  rank : ∀ i, i < n → up i ≠ i → d (up i) < d i
theorem UF.idem {d : Nat → Nat} {n : Nat} {up r : Nat → Nat} (h : UF d n up r) {i : Nat} (hi : i < n) : r (r i) = r i := h.root _ (h.rlt i hi) (h.top i hi)
/-- the way up is halved at i -/
theorem UF.halve {d : Nat → Nat} {n : Nat} {up up' r : Nat → Nat} (h : UF d n up r) {i : Nat} (hi : i < n) (hne : up i ≠ i) (h1 : up' i = up (up i)) (h2 : ∀ j, j ≠ i → up' j = up j) : UF d n up' r ∧ d (up (up i)) < d i ∧ up (up i) < n ∧ r (up (up i)) = r i := by
  have hu := h.lt i hi
  have hd := h.rank i hi hne
  have hd2 : d (up (up i)) < d i := by
    by_cases e : up (up i) = up i
    · rw [e]; exact hd
    · exact Nat.lt_trans (h.rank _ hu e) hd
  have hc : r (up (up i)) = r i := by rw [h.cls _ hu, h.cls _ hi]
  refine ⟨⟨fun j hj => ?_, fun j hj => ?_, fun j hj => ?_, h.rlt, fun j hj e => ?_, fun j hj e => ?_⟩, hd2, h.lt _ hu, hc⟩
  · by_cases e : j = i
    · subst e; rw [h1]; exact h.lt _ hu
    · rw [h2 _ e]; exact h.lt _ hj
  · by_cases e : j = i
    · subst e; rw [h1]; exact hc
    · rw [h2 _ e]; exact h.cls _ hj
  · by_cases e : r j = i
    · exact absurd (by rw [← e]; exact h.top j hj) hne
    · rw [h2 _ e]; exact h.top _ hj
  · by_cases e' : j = i
    · subst e'; rw [h1] at e; rw [e] at hd2; exact absurd hd2 (Nat.lt_irrefl _)
    · rw [h2 _ e'] at e; exact h.root _ hj e
  · by_cases e' : j = i
    · subst e'; rw [h1]; exact hd2
    · rw [h2 _ e'] at e ⊢; exact h.rank _ hj e
/-- the root a is hung under the root b -/
theorem UF.hang {d : Nat → Nat} {n : Nat} {up up' r : Nat → Nat} (h : UF d n up r) {a b : Nat} (ha : a < n) (hb : b < n) (ra : r a = a) (rb : r b = b) (hne : a ≠ b) (h1 : up' a = b) (h2 : ∀ j, j ≠ a → up' j = up j) :
    ∃ d', UF d' n up' (fun j => if r j = a then b else r j) := by
  have ta : up a = a := by have := h.top a ha; rwa [ra] at this
  have tb : up b = b := by have := h.top b hb; rwa [rb] at this
  refine ⟨fun j => if r j = a then d j + d b + 1 else d j, ⟨fun j hj => ?_, fun j hj => ?_, fun j hj => ?_, fun j hj => ?_, fun j hj e => ?_, fun j hj e => ?_⟩⟩
  · by_cases e : j = a
    · subst e; rw [h1]; exact hb
    · rw [h2 _ e]; exact h.lt _ hj
  · by_cases e : j = a
    · subst e; simp only [h1, ra, rb, if_true]; rw [if_neg (Ne.symm hne)]
    · simp only [h2 _ e, h.cls _ hj]
  · by_cases e : r j = a
    · simp only [e, if_true]; rw [h2 _ (Ne.symm hne)]; exact tb
    · simp only [if_neg e]; rw [h2 _ e]; exact h.top _ hj
  · by_cases e : r j = a
    · simp only [e, if_true]; exact hb
    · simp only [if_neg e]; exact h.rlt _ hj
  · by_cases e' : j = a
    · subst e'; rw [h1] at e; exact absurd e.symm hne
    · rw [h2 _ e'] at e
      have := h.root _ hj e
      simp only [this]; rw [if_neg e']
  · by_cases e' : j = a
    · subst e'; simp only [h1, rb, ra, if_true]; rw [if_neg (Ne.symm hne)]; omega
    · rw [h2 _ e'] at e ⊢
      have hr := h.rank _ hj e
      simp only [h.cls _ hj]
      by_cases e2 : r j = a
      · simp only [e2, if_true]; omega
      · simp only [if_neg e2]; exact hr
/-- a new node stands for itself -/
theorem UF.grow {d : Nat → Nat} {n : Nat} {up up' r r' : Nat → Nat} (h : UF d n up r) (h1 : up' n = n) (h2 : ∀ j, j < n → up' j = up j) (h3 : r' n = n) (h4 : ∀ j, j < n → r' j = r j) : UF d (n + 1) up' r' := by
  have cases_ : ∀ {j}, j < n + 1 → j = n ∨ j < n := fun h => by omega
  refine ⟨fun j hj => ?_, fun j hj => ?_, fun j hj => ?_, fun j hj => ?_, fun j hj e => ?_, fun j hj e => ?_⟩
  · rcases cases_ hj with rfl | hj
    · rw [h1]; omega
    · rw [h2 _ hj]; have := h.lt _ hj; omega
  · rcases cases_ hj with rfl | hj
    · rw [h1]
    · rw [h2 _ hj, h4 _ (h.lt _ hj), h4 _ hj]; exact h.cls _ hj
  · rcases cases_ hj with rfl | hj
    · rw [h3, h1]
    · rw [h4 _ hj, h2 _ (h.rlt _ hj)]; exact h.top _ hj
  · rcases cases_ hj with rfl | hj
    · rw [h3]; omega
    · rw [h4 _ hj]; have := h.rlt _ hj; omega
  · rcases cases_ hj with rfl | hj
    · exact h3
    · rw [h2 _ hj] at e; rw [h4 _ hj]; exact h.root _ hj e
  · rcases cases_ hj with rfl | hj
    · exact absurd h1 e
    · rw [h2 _ hj] at e ⊢; exact h.rank _ hj e
/-! ### The web -/
/-- only the ways up may have changed -/
def Ups (l l' : List PN) : Prop := l'.length = l.length ∧ ∀ i (h : i < l.length) (h' : i < l'.length), l'[i] = { l[i] with up := l'[i].up }
theorem Ups.refl (l : List PN) : Ups l l := ⟨rfl, fun _ _ _ => rfl⟩
theorem Ups.trans {a b c : List PN} (h : Ups a b) (h' : Ups b c) : Ups a c := ⟨h'.1.trans h.1, fun i ha hc => by
  have hb : i < b.length := by rw [h.1]; exact ha
  rw [h'.2 i hb hc, h.2 i ha hb]⟩
theorem Ups.set_ (l : List PN) (i : Nat) (hi : i < l.length) (u : Nat) : Ups l (l.set i { l[i] with up := u }) := ⟨by simp, fun j h h' => by
  by_cases e : i = j
  · subst e; simp
  · simp [List.getElem_set_ne e]⟩
def upOf (l : List PN) (i : Nat) : Nat := (l[i]?.map PN.up).getD 0
theorem upOf_at {l : List PN} {i : Nat} (h : i < l.length) : upOf l i = l[i].up := by simp [upOf, h]
theorem upOf_set {l : List PN} {i : Nat} (h : i < l.length) (x : PN) : upOf (l.set i x) i = x.up := by simp [upOf, h]
theorem upOf_set_ne {l : List PN} {i j : Nat} (h : i ≠ j) (x : PN) : upOf (l.set i x) j = upOf l j := by simp [upOf, h]
end Go.Proofs.YtgcbnndbeoekgaaDoor
end
