/- which nodes are a term, in plain Lean: as both sides reckon it; and then they are a tree's -/
import Derived.Test.YtgcbnndbeoekgaaDoorTree
set_option linter.unusedSimpArgs false
set_option linter.unusedVariables false
namespace Go.Proofs.YtgcbnndbeoekgaaDoor
open Go Go.RowKit

/-! ### How far a node reaches -/
/-- over a node's arguments, by what tells how far each one reaches -/
def ordA (rec : Nat → Option Nat) (n : Nat) : List Int → Nat → Option Nat
  | [], next => some next
  | a :: r, next => if a = next ∧ next < n then (match rec next with | some m => ordA rec n r m | none => none) else none
def ordF : Nat → List TN → Nat → Option Nat
  | 0, _, _ => none
  | f + 1, l, i => match l[i]? with | some t => ordA (ordF f l) l.length t.args (i + 1) | none => none
section
variable {n : Nat} {rec rec' : Nat → Option Nat}
theorem ordA_gt (h : ∀ i m, rec i = some m → i < m ∧ m ≤ n) : ∀ (as : List Int) (i m : Nat), i ≤ n → ordA rec n as i = some m → i ≤ m ∧ m ≤ n
  | [], i, m, hi, e => by
    have : i = m := Option.some.inj e
    omega
  | a :: r, i, m, hi, e => by
    unfold ordA at e
    split at e
    · cases hr : rec i with
      | none => rw [hr] at e; cases e
      | some k =>
        rw [hr] at e
        have h1 := h i k hr
        have h2 := ordA_gt h r k m h1.2 e
        omega
    · cases e
theorem ordA_congr {i0 : Nat} (hg : ∀ i m, rec i = some m → i < m) (h : ∀ i, i0 ≤ i → i < n → rec i = rec' i) : ∀ (as : List Int) (i : Nat), i0 ≤ i → ordA rec n as i = ordA rec' n as i
  | [], _, _ => rfl
  | a :: r, i, hi => by
    unfold ordA
    by_cases hc : a = i ∧ i < n
    · rw [if_pos hc, if_pos hc, ← h i hi hc.2]
      cases hr : rec i with
      | none => rfl
      | some k => exact ordA_congr hg h r k (by have := hg i k hr; omega)
    · rw [if_neg hc, if_neg hc]
end
theorem ordF_gt : ∀ (f : Nat) (l : List TN) (i m : Nat), ordF f l i = some m → i < m ∧ m ≤ l.length := by
  intro f
  induction f with
  | zero => intro l i m e; cases e
  | succ f ih =>
    intro l i m e
    unfold ordF at e
    by_cases hi : i < l.length
    · rw [List.getElem?_eq_getElem hi] at e
      have := ordA_gt (n := l.length) (rec := ordF f l) (fun i m => ih l i m) _ _ _ (by omega) e
      omega
    · rw [List.getElem?_eq_none (by omega)] at e; cases e
theorem ordF_more : ∀ (f f' : Nat) (l : List TN) (i : Nat), l.length - i ≤ f → l.length - i ≤ f' → ordF f l i = ordF f' l i := by
  intro f
  induction f with
  | zero =>
    intro f' l i h h'
    have hi : l.length ≤ i := by omega
    cases f' with
    | zero => rfl
    | succ f' => unfold ordF; rw [List.getElem?_eq_none hi]
  | succ f ih =>
    intro f' l i h h'
    by_cases hi : i < l.length
    · cases f' with
      | zero => omega
      | succ f' =>
        unfold ordF
        rw [List.getElem?_eq_getElem hi]
        exact ordA_congr (i0 := i + 1) (fun i m e => (ordF_gt f l i m e).1) (fun k hk hk2 => ih f' l k (by omega) (by omega)) _ _ (Nat.le_refl _)
    · have h0 : ∀ g, ordF (g + 1) l i = none := fun g => by unfold ordF; rw [List.getElem?_eq_none (by omega)]
      cases f' with
      | zero => exact h0 f
      | succ f' => rw [h0, h0]
def ordN (l : List TN) (i : Nat) : Option Nat := ordF (l.length - i) l i
section
variable {l : List TN} {i m : Nat}
theorem ordN_at (hi : i < l.length) : ordN l i = ordA (ordN l) l.length l[i].args (i + 1) := by
  unfold ordN
  obtain ⟨f, hf⟩ : ∃ f, l.length - i = f + 1 := ⟨l.length - i - 1, by omega⟩
  rw [hf]
  show (match l[i]? with | some t => ordA (ordF f l) l.length t.args (i + 1) | none => none) = _
  rw [List.getElem?_eq_getElem hi]
  exact ordA_congr (i0 := i + 1) (fun i m e => (ordF_gt f l i m e).1) (fun k hk hk2 => ordF_more f (l.length - k) l k (by omega) (Nat.le_refl _)) _ _ (Nat.le_refl _)
theorem ordN_gt (h : ordN l i = some m) : i < m ∧ m ≤ l.length := ordF_gt _ _ _ _ h
theorem ordA_cons {a : Int} {as : List Int} (h1 : a = i) (h2 : i < l.length) {k : Nat} (h : ordN l i = some k) : ordA (ordN l) l.length (a :: as) i = ordA (ordN l) l.length as k := by
  show (if a = i ∧ i < l.length then _ else _) = _
  rw [if_pos ⟨h1, h2⟩, h]
theorem ordA_none {a : Int} {as : List Int} (h : a ≠ i ∨ ¬ i < l.length ∨ ordN l i = none) : ordA (ordN l) l.length (a :: as) i = none := by
  show (if a = i ∧ i < l.length then _ else _) = _
  by_cases hc : a = i ∧ i < l.length
  · rw [if_pos hc]
    rcases h with h | h | h
    · exact absurd hc.1 h
    · exact absurd hc.2 h
    · rw [h]
  · rw [if_neg hc]
/-- where a node reaches, so do all within -/
theorem ordN_within : ∀ (d i m : Nat), l.length - i ≤ d → ordN l i = some m → ∀ j, i ≤ j → j < m → ordN l j ≠ none := by
  intro d
  induction d with
  | zero => intro i m h e; have := ordN_gt e; omega
  | succ d ih =>
    intro i m h e j h1 h2
    by_cases hij : i = j
    · subst hij; rw [e]; simp
    · have hil : i < l.length := by have := ordN_gt e; omega
      rw [ordN_at hil] at e
      have key : ∀ (as : List Int) (k : Nat), i + 1 ≤ k → ordA (ordN l) l.length as k = some m → ∀ j, k ≤ j → j < m → ordN l j ≠ none := by
        intro as
        induction as with
        | nil => intro k _ e j h1 h2; have : k = m := Option.some.inj e; omega
        | cons a r ihr =>
          intro k hk e j h1 h2
          by_cases hc : a = k ∧ k < l.length
          · cases hr : ordN l k with
            | none => rw [ordA_none (.inr (.inr hr))] at e; cases e
            | some x =>
              rw [ordA_cons hc.1 hc.2 hr] at e
              have hx := ordN_gt hr
              by_cases hjx : j < x
              · exact ih k x (by omega) hr j h1 hjx
              · exact ihr x (by omega) e j (by omega) h2
          · have : ordA (ordN l) l.length (a :: r) k = none := if_neg hc
            rw [this] at e; cases e
      exact key _ _ (Nat.le_refl _) e j (by omega) h2
end

/-! ### Which nodes are a term -/
def HoleN (t : TN) : Prop := 1 ≤ t.var ∧ t.var ≤ 2147483647 ∧ t.name.size = 0 ∧ t.args.length = 0
def NodeR (t : TN) : Prop := HoleN t ∨ (t.var = 0 ∧ rightB t.name.data.toList = true)
def GoodN (l : List TN) : Prop := (∀ t ∈ l, NodeR t) ∧ ordN l 0 = some l.length
open Classical in
noncomputable def rightI (l : List TN) : Int := if 256 < l.length then 3 else if GoodN l then 0 else 2
open Classical in
theorem rightI_long {l : List TN} (h : 256 < l.length) : rightI l = 3 := if_pos h
open Classical in
theorem rightI_bad {l : List TN} (h : ¬ 256 < l.length) (hg : ¬ GoodN l) : rightI l = 2 := by unfold rightI; rw [if_neg h, if_neg hg]
open Classical in
theorem rightI_good {l : List TN} (h : ¬ 256 < l.length) (hg : GoodN l) : rightI l = 0 := by unfold rightI; rw [if_neg h, if_pos hg]
open Classical in
theorem rightI_zero {l : List TN} (h : rightI l = 0) : l.length ≤ 256 ∧ GoodN l := by
  unfold rightI at h
  by_cases h1 : 256 < l.length
  · rw [if_pos h1] at h; cases h
  · rw [if_neg h1] at h
    by_cases h2 : GoodN l
    · exact ⟨by omega, h2⟩
    · rw [if_neg h2] at h; cases h
/-- the nodes from a place on begin with a forest's -/
def Seg (l : List TN) (o : Nat) (F : Fo) : Prop := ∃ r, l.drop o = F.flat o ++ r
section
variable {l : List TN}
theorem tree_of (hR : ∀ t ∈ l, NodeR t) : ∀ (d i m : Nat), l.length - i ≤ d → ordN l i = some m → ∃ F : Fo, F.one ∧ F.wf ∧ Seg l i F ∧ m = i + F.size := by
  intro d
  induction d with
  | zero => intro i m h e; have := ordN_gt e; omega
  | succ d ih =>
    intro i m h e
    have hil : i < l.length := by have := ordN_gt e; omega
    have hd : l.drop i = l[i] :: l.drop (i + 1) := List.drop_eq_getElem_cons hil
    rw [ordN_at hil] at e
    have key : ∀ (as : List Int) (k : Nat), i + 1 ≤ k → ordA (ordN l) l.length as k = some m → ∃ G : Fo, G.wf ∧ Seg l k G ∧ G.offs k = as ∧ m = k + G.size := by
      intro as
      induction as with
      | nil => intro k _ e; exact ⟨.nil, trivial, ⟨l.drop k, rfl⟩, rfl, (Option.some.inj e).symm⟩
      | cons a r ihr =>
        intro k hk e
        by_cases hc : a = k ∧ k < l.length
        · cases hr : ordN l k with
          | none => rw [ordA_none (.inr (.inr hr))] at e; cases e
          | some x =>
            rw [ordA_cons hc.1 hc.2 hr] at e
            have hx := ordN_gt hr
            obtain ⟨T, t1, t2, ⟨r1, t3⟩, t4⟩ := ih k x (by omega) hr
            obtain ⟨G, g1, ⟨r2, g2⟩, g3, g4⟩ := ihr x (by omega) e
            have hrest : r1 = l.drop x := by
              have := congrArg (List.drop T.size) t3
              rw [List.drop_drop, List.drop_left' (Fo.flat_len _ _)] at this
              rw [← this]; congr 1; omega
            rw [hrest, g2] at t3
            cases T with
            | nil => exact t1.elim
            | hole n q =>
              cases (show q = .nil from t1)
              have hx1 : x = k + 1 := by rw [t4]; rfl
              subst hx1
              exact ⟨.hole n G, ⟨t2.1, t2.2.1, g1⟩, ⟨r2, by rw [t3]; simp [Fo.flat]⟩, by show (k : Int) :: G.offs (k + 1) = _; rw [g3, hc.1], by rw [g4]; show k + 1 + G.size = k + (1 + G.size); omega⟩
            | app nm kk q =>
              cases (show q = .nil from t1)
              have hx1 : x = k + 1 + kk.size := by rw [t4]; show k + (1 + kk.size + 0) = _; omega
              subst hx1
              exact ⟨.app nm kk G, ⟨t2.1, t2.2.1, g1⟩, ⟨r2, by rw [t3]; simp [Fo.flat]⟩, by show (k : Int) :: G.offs (k + 1 + kk.size) = _; rw [g3, hc.1], by rw [g4]; show k + 1 + kk.size + G.size = k + (1 + kk.size + G.size); omega⟩
        · have : ordA (ordN l) l.length (a :: r) k = none := if_neg hc
          rw [this] at e; cases e
    obtain ⟨G, g1, ⟨r2, g2⟩, g3, g4⟩ := key _ _ (Nat.le_refl _) e
    have hn := hR _ (List.getElem_mem hil)
    obtain ⟨t, ht⟩ : ∃ t, l[i] = t := ⟨_, rfl⟩
    rw [ht] at hn hd g3
    obtain ⟨tv, tn, ta⟩ := t
    rcases hn with ⟨v1, v2, v3, v4⟩ | ⟨v1, v2⟩
    · have ta0 : ta = [] := List.eq_nil_of_length_eq_zero v4
      have tn0 : tn = ByteArray.empty := by
        cases tn with
        | mk d =>
          have : d.size = 0 := v3
          rw [Array.size_eq_zero_iff.1 this]; rfl
      have hG : G = .nil := by
        cases G with
        | nil => rfl
        | hole _ _ => have : _ :: _ = ta := g3; rw [ta0] at this; cases this
        | app _ _ _ => have : _ :: _ = ta := g3; rw [ta0] at this; cases this
      subst hG
      have hv : ((tv.toNat : Nat) : Int) = tv := Int.toNat_of_nonneg (by have : (1 : Int) ≤ tv := v1; omega)
      have v1' : (1 : Int) ≤ tv := v1
      have v2' : tv ≤ 2147483647 := v2
      refine ⟨.hole tv.toNat .nil, rfl, ⟨by omega, by omega, trivial⟩, ⟨l.drop (i + 1), ?_⟩, g4⟩
      rw [hd]
      show _ = (⟨((tv.toNat : Nat) : Int), ByteArray.empty, []⟩ : TN) :: ([] ++ l.drop (i + 1))
      rw [hv, ta0, tn0]; rfl
    · refine ⟨.app tn G .nil, rfl, ⟨v2, g1, trivial⟩, ⟨r2, ?_⟩, by rw [g4]; show i + 1 + G.size = i + (1 + G.size + 0); omega⟩
      rw [hd, g2]
      show _ = (⟨0, tn, G.offs (i + 1)⟩ : TN) :: (G.flat (i + 1) ++ []) ++ r2
      have : tv = 0 := v1
      rw [g3, this]; simp
/-- a term is a tree's nodes -/
theorem good_tree (h : rightI l = 0) : ∃ F : Fo, F.one ∧ F.wf ∧ l = F.flat 0 ∧ F.size ≤ 256 := by
  obtain ⟨h1, h2, h3⟩ := rightI_zero h
  obtain ⟨F, f1, f2, ⟨r, f3⟩, f4⟩ := tree_of h2 l.length 0 l.length (by omega) h3
  have hl : F.size = l.length := by omega
  have hr : r = [] := by
    have := congrArg List.length f3
    rw [List.length_append, Fo.flat_len, List.length_drop] at this
    exact List.eq_nil_of_length_eq_zero (by omega)
  refine ⟨F, f1, f2, ?_, by omega⟩
  rw [hr, List.append_nil, List.drop_zero] at f3
  exact f3
end
end Go.Proofs.YtgcbnndbeoekgaaDoor
