import Derived.Test.YtgcbnndbeoekgaaDoorTree
set_option linter.unusedSimpArgs false
set_option linter.unusedVariables false
section
/- which nodes are a term, in plain Lean: as both sides reckon it; and then they are a tree's -/
namespace Go.Proofs.YtgcbnndbeoekgaaDoor
open Go Go.RowKit

/-! ### How far a node reaches -/
/-- over a node's arguments, by what tells how far each one reaches -/
def ordA (rec : Nat → Option Nat) (n : Nat) : List Int → Nat → Option Nat
  | [], next => some next
  | a :: r, next => if a = next ∧ next < n then (match rec next with | some m => ordA rec n r m | none => none) else none
def ordF : Nat → List TN → Nat → Option Nat
  | 0, _, _ => none
  | f + 1, l, i => match l[i]? with | some t => ordA (ordF f l) l.length t.args (i + 1) | none => none
section
variable {n : Nat} {rec rec' : Nat → Option Nat}
theorem ordA_gt (h : ∀ i m, rec i = some m → i < m ∧ m ≤ n) : ∀ (as : List Int) (i m : Nat), i ≤ n → ordA rec n as i = some m → i ≤ m ∧ m ≤ n
  | [], i, m, hi, e => by
    have : i = m := Option.some.inj e
    omega
  | a :: r, i, m, hi, e => by
    unfold ordA at e
    split at e
    · cases hr : rec i with
      | none => rw [hr] at e; cases e
      | some k =>
        rw [hr] at e
        have h1 := h i k hr
        have h2 := ordA_gt h r k m h1.2 e
        omega
    · cases e
theorem ordA_congr {i0 : Nat} (hg : ∀ i m, rec i = some m → i < m) (h : ∀ i, i0 ≤ i → i < n → rec i = rec' i) : ∀ (as : List Int) (i : Nat), i0 ≤ i → ordA rec n as i = ordA rec' n as i
  | [], _, _ => rfl
  | a :: r, i, hi => by
    unfold ordA
    by_cases hc : a = i ∧ i < n
    · rw [if_pos hc, if_pos hc, ← h i hi hc.2]
      cases hr : rec i with
      | none => rfl
      | some k => exact ordA_congr hg h r k (by have := hg i k hr; omega)
    · rw [if_neg hc, if_neg hc]
end
theorem ordF_gt : ∀ (f : Nat) (l : List TN) (i m : Nat), ordF f l i = some m → i < m ∧ m ≤ l.length := by
  intro f
  induction f with
  | zero => intro l i m e; cases e
  | succ f ih =>
    intro l i m e
    unfold ordF at e
    by_cases hi : i < l.length
    · rw [List.getElem?_eq_getElem hi] at e
      have := ordA_gt (n := l.length) (rec := ordF f l) (fun i m => ih l i m) _ _ _ (by omega) e
      omega
    · rw [List.getElem?_eq_none (by omega)] at e; cases e
theorem ordF_more : ∀ (f f' : Nat) (l : List TN) (i : Nat), l.length - i ≤ f → l.length - i ≤ f' → ordF f l i = ordF f' l i := by
  intro f
  induction f with
  | zero =>
    intro f' l i h h'
    have hi : l.length ≤ i := by omega
    cases f' with
    | zero => rfl
    | succ f' => unfold ordF; rw [List.getElem?_eq_none hi]
  | succ f ih =>
    intro f' l i h h'
    by_cases hi : i < l.length
    · cases f' with
      | zero => omega
      | succ f' =>
        unfold ordF
        rw [List.getElem?_eq_getElem hi]
        exact ordA_congr (i0 := i + 1) (fun i m e => (ordF_gt f l i m e).1) (fun k hk hk2 => ih f' l k (by omega) (by omega)) _ _ (Nat.le_refl _)
    · have h0 : ∀ g, ordF (g + 1) l i = none := fun g => by unfold ordF; rw [List.getElem?_eq_none (by omega)]
      cases f' with
      | zero => exact h0 f
      | succ f' => rw [h0, h0]
def ordN (l : List TN) (i : Nat) : Option Nat := ordF (l.length - i) l i
section
variable {l : List TN} {i m : Nat}
theorem ordN_at (hi : i < l.length) : ordN l i = ordA (ordN l) l.length l[i].args (i + 1) := by
  unfold ordN
  obtain ⟨f, hf⟩ : ∃ f, l.length - i = f + 1 := ⟨l.length - i - 1, by omega⟩
  rw [hf]
  show (match l[i]? with | some t => ordA (ordF f l) l.length t.args (i + 1) | none => none) = _
  rw [List.getElem?_eq_getElem hi]
  exact ordA_congr (i0 := i + 1) (fun i m e => (ordF_gt f l i m e).1) (fun k hk hk2 => ordF_more f (l.length - k) l k (by omega) (Nat.le_refl _)) _ _ (Nat.le_refl _)
theorem ordN_gt (h : ordN l i = some m) : i < m ∧ m ≤ l.length := ordF_gt _ _ _ _ h
theorem ordA_cons {a : Int} {as : List Int} (h1 : a = i) (h2 : i < l.length) {k : Nat} (h : ordN l i = some k) : ordA (ordN l) l.length (a :: as) i = ordA (ordN l) l.length as k := by
  show (if a = i ∧ i < l.length then _ else _) = _
  rw [if_pos ⟨h1, h2⟩, h]
theorem ordA_none {a : Int} {as : List Int} (h : a ≠ i ∨ ¬ i < l.length ∨ ordN l i = none) : ordA (ordN l) l.length (a :: as) i = none := by
  show (if a = i ∧ i < l.length then _ else _) = _
  by_cases hc : a = i ∧ i < l.length
  · rw [if_pos hc]
    rcases h with h | h | h
    · exact absurd hc.1 h
    · exact absurd hc.2 h
    · rw [h]
  · rw [if_neg hc]
end

/-! ### Which nodes are a term -/
def HoleN (t : TN) : Prop := 1 ≤ t.var ∧ t.var ≤ 2147483647 ∧ t.name.size = 0 ∧ t.args.length = 0
def NodeR (t : TN) : Prop := HoleN t ∨ (t.var = 0 ∧ rightB t.name.data.toList = true)
def GoodN (l : List TN) : Prop := (∀ t ∈ l, NodeR t) ∧ ordN l 0 = some l.length
open Classical in
noncomputable def rightI (l : List TN) : Int := if 256 < l.length then 3 else if GoodN l then 0 else 2
open Classical in
theorem rightI_long {l : List TN} (h : 256 < l.length) : rightI l = 3 := if_pos h
open Classical in
theorem rightI_bad {l : List TN} (h : ¬ 256 < l.length) (hg : ¬ GoodN l) : rightI l = 2 := by unfold rightI; rw [if_neg h, if_neg hg]
open Classical in
theorem rightI_good {l : List TN} (h : ¬ 256 < l.length) (hg : GoodN l) : rightI l = 0 := by unfold rightI; rw [if_neg h, if_pos hg]
open Classical in
theorem rightI_zero {l : List TN} (h : rightI l = 0) : l.length ≤ 256 ∧ GoodN l := by
  unfold rightI at h
  by_cases h1 : 256 < l.length
  · rw [if_pos h1] at h; cases h
  · rw [if_neg h1] at h
    by_cases h2 : GoodN l
    · exact ⟨by omega, h2⟩
    · rw [if_neg h2] at h; cases h
/-- the nodes from a place on begin with a forest's -/
def Seg (l : List TN) (o : Nat) (F : Fo) : Prop := ∃ r, l.drop o = F.flat o ++ r
section
variable {l : List TN}
theorem tree_of (hR : ∀ t ∈ l, NodeR t) : ∀ (d i m : Nat), l.length - i ≤ d → ordN l i = some m → ∃ F : Fo, F.one ∧ F.wf ∧ Seg l i F ∧ m = i + F.size := by
  intro d
  induction d with
  | zero => intro i m h e; have := ordN_gt e; omega
  | succ d ih =>
    intro i m h e
    have hil : i < l.length := by have := ordN_gt e; omega
    have hd : l.drop i = l[i] :: l.drop (i + 1) := List.drop_eq_getElem_cons hil
    rw [ordN_at hil] at e
    have key : ∀ (as : List Int) (k : Nat), i + 1 ≤ k → ordA (ordN l) l.length as k = some m → ∃ G : Fo, G.wf ∧ Seg l k G ∧ G.offs k = as ∧ m = k + G.size := by
      intro as
      induction as with
      | nil => intro k _ e; exact ⟨.nil, trivial, ⟨l.drop k, rfl⟩, rfl, (Option.some.inj e).symm⟩
      | cons a r ihr =>
        intro k hk e
        by_cases hc : a = k ∧ k < l.length
        · cases hr : ordN l k with
          | none => rw [ordA_none (.inr (.inr hr))] at e; cases e
          | some x =>
            rw [ordA_cons hc.1 hc.2 hr] at e
            have hx := ordN_gt hr
            obtain ⟨T, t1, t2, ⟨r1, t3⟩, t4⟩ := ih k x (by omega) hr
            obtain ⟨G, g1, ⟨r2, g2⟩, g3, g4⟩ := ihr x (by omega) e
            have hrest : r1 = l.drop x := by
              have := congrArg (List.drop T.size) t3
              rw [List.drop_drop, List.drop_left' (Fo.flat_len _ _)] at this
              rw [← this]; congr 1; omega
            rw [hrest, g2] at t3
            cases T with
            | nil => exact t1.elim
            | hole n q =>
              cases (show q = .nil from t1)
              have hx1 : x = k + 1 := by rw [t4]; rfl
              subst hx1
              exact ⟨.hole n G, ⟨t2.1, t2.2.1, g1⟩, ⟨r2, by rw [t3]; simp [Fo.flat]⟩, by show (k : Int) :: G.offs (k + 1) = _; rw [g3, hc.1], by rw [g4]; show k + 1 + G.size = k + (1 + G.size); omega⟩
            | app nm kk q =>
              cases (show q = .nil from t1)
              have hx1 : x = k + 1 + kk.size := by rw [t4]; show k + (1 + kk.size + 0) = _; omega
              subst hx1
              exact ⟨.app nm kk G, ⟨t2.1, t2.2.1, g1⟩, ⟨r2, by rw [t3]; simp [Fo.flat]⟩, by show (k : Int) :: G.offs (k + 1 + kk.size) = _; rw [g3, hc.1], by rw [g4]; show k + 1 + kk.size + G.size = k + (1 + kk.size + G.size); omega⟩
        · have : ordA (ordN l) l.length (a :: r) k = none := if_neg hc
          rw [this] at e; cases e
    obtain ⟨G, g1, ⟨r2, g2⟩, g3, g4⟩ := key _ _ (Nat.le_refl _) e
    have hn := hR _ (List.getElem_mem hil)
    obtain ⟨t, ht⟩ : ∃ t, l[i] = t := ⟨_, rfl⟩
    rw [ht] at hn hd g3
    obtain ⟨tv, tn, ta⟩ := t
    rcases hn with ⟨v1, v2, v3, v4⟩ | ⟨v1, v2⟩
    · have ta0 : ta = [] := List.eq_nil_of_length_eq_zero v4
      have tn0 : tn = ByteArray.empty := by
        cases tn with
        | mk d =>
          have : d.size = 0 := v3
          rw [Array.size_eq_zero_iff.1 this]; rfl
      have hG : G = .nil := by
        cases G with
        | nil => rfl
        | hole _ _ => have : _ :: _ = ta := g3; rw [ta0] at this; cases this
        | app _ _ _ => have : _ :: _ = ta := g3; rw [ta0] at this; cases this
      subst hG
      have hv : ((tv.toNat : Nat) : Int) = tv := Int.toNat_of_nonneg (by have : (1 : Int) ≤ tv := v1; omega)
      have v1' : (1 : Int) ≤ tv := v1
      have v2' : tv ≤ 2147483647 := v2
      refine ⟨.hole tv.toNat .nil, rfl, ⟨by omega, by omega, trivial⟩, ⟨l.drop (i + 1), ?_⟩, g4⟩
      rw [hd]
      show _ = (⟨((tv.toNat : Nat) : Int), ByteArray.empty, []⟩ : TN) :: ([] ++ l.drop (i + 1))
      rw [hv, ta0, tn0]; rfl
    · refine ⟨.app tn G .nil, rfl, ⟨v2, g1, trivial⟩, ⟨r2, ?_⟩, by rw [g4]; show i + 1 + G.size = i + (1 + G.size + 0); omega⟩
      rw [hd, g2]
      show _ = (⟨0, tn, G.offs (i + 1)⟩ : TN) :: (G.flat (i + 1) ++ []) ++ r2
      have : tv = 0 := v1
      rw [g3, this]; simp
/-- a term is a tree's nodes -/
theorem good_tree (h : rightI l = 0) : ∃ F : Fo, F.one ∧ F.wf ∧ l = F.flat 0 ∧ F.size ≤ 256 := by
  obtain ⟨h1, h2, h3⟩ := rightI_zero h
  obtain ⟨F, f1, f2, ⟨r, f3⟩, f4⟩ := tree_of h2 l.length 0 l.length (by omega) h3
  have hl : F.size = l.length := by omega
  have hr : r = [] := by
    have := congrArg List.length f3
    rw [List.length_append, Fo.flat_len, List.length_drop] at this
    exact List.eq_nil_of_length_eq_zero (by omega)
  refine ⟨F, f1, f2, ?_, by omega⟩
  rw [hr, List.append_nil, List.drop_zero] at f3
  exact f3
end
end Go.Proofs.YtgcbnndbeoekgaaDoor
end
section
/- what stands for holes is put in their places, in plain Lean -/
namespace Go.Proofs.YtgcbnndbeoekgaaDoor
open Go Go.RowKit

def Fo.app2 : Fo → Fo → Fo
  | .nil, G => G
  | .hole n r, G => .hole n (r.app2 G)
  | .app nm k r, G => .app nm k (r.app2 G)
theorem Fo.size_app2 : ∀ F G : Fo, (F.app2 G).size = F.size + G.size
  | .nil, G => (Nat.zero_add _).symm
  | .hole _ r, G => by show 1 + (r.app2 G).size = 1 + r.size + G.size; rw [size_app2 r]; omega
  | .app _ k r, G => by show 1 + k.size + (r.app2 G).size = 1 + k.size + r.size + G.size; rw [size_app2 r]; omega
theorem Fo.flat_app2 : ∀ (F G : Fo) (o : Nat), (F.app2 G).flat o = F.flat o ++ G.flat (o + F.size)
  | .nil, G, o => rfl
  | .hole n r, G, o => by
    show _ :: (r.app2 G).flat (o + 1) = _ :: (r.flat (o + 1) ++ G.flat (o + (1 + r.size)))
    rw [flat_app2 r, Nat.add_assoc]
  | .app nm k r, G, o => by
    show _ :: (k.flat (o + 1) ++ (r.app2 G).flat (o + 1 + k.size)) = _ :: (k.flat (o + 1) ++ r.flat (o + 1 + k.size) ++ G.flat (o + (1 + k.size + r.size)))
    rw [flat_app2 r, List.append_assoc, show o + 1 + k.size + r.size = o + (1 + k.size + r.size) by omega]
theorem Fo.offs_app2 : ∀ (F G : Fo) (o : Nat), (F.app2 G).offs o = F.offs o ++ G.offs (o + F.size)
  | .nil, G, o => rfl
  | .hole n r, G, o => by
    show _ :: (r.app2 G).offs (o + 1) = _ :: (r.offs (o + 1) ++ G.offs (o + (1 + r.size)))
    rw [offs_app2 r, Nat.add_assoc]
  | .app nm k r, G, o => by
    show _ :: (r.app2 G).offs (o + 1 + k.size) = _ :: (r.offs (o + 1 + k.size) ++ G.offs (o + (1 + k.size + r.size)))
    rw [offs_app2 r, show o + 1 + k.size + r.size = o + (1 + k.size + r.size) by omega]
theorem Fo.txt_app2 : ∀ (F G : Fo) (b : Bool), (F.app2 G).txt b = F.txt b ++ G.txt (b || !F.isNil)
  | .nil, G, b => by simp [Fo.app2, Fo.txt, Fo.isNil]
  | .hole n r, G, b => by
    show _ ++ (63 :: digs n ++ (r.app2 G).txt true) = (_ ++ (63 :: digs n ++ r.txt true)) ++ G.txt (b || !false)
    rw [txt_app2 r]; simp
  | .app nm k r, G, b => by
    show _ ++ (nm.data.toList ++ par k.isNil (k.txt false) ++ (r.app2 G).txt true) = (_ ++ (nm.data.toList ++ par k.isNil (k.txt false) ++ r.txt true)) ++ G.txt (b || !false)
    rw [txt_app2 r]; simp
theorem Fo.isNil_app2 : ∀ F G : Fo, (F.app2 G).isNil = (F.isNil && G.isNil)
  | .nil, G => by simp [Fo.app2, Fo.isNil]
  | .hole _ _, _ => rfl
  | .app _ _ _, _ => rfl
theorem Fo.wf_app2 : ∀ {F G : Fo}, F.wf → G.wf → (F.app2 G).wf
  | .nil, _, _, h => h
  | .hole _ _, _, h, h' => ⟨h.1, h.2.1, wf_app2 h.2.2 h'⟩
  | .app _ _ _, _, h, h' => ⟨h.1, h.2.1, wf_app2 h.2.2 h'⟩
theorem Fo.app2_nil : ∀ F : Fo, F.app2 .nil = F
  | .nil => rfl
  | .hole n r => congrArg (Fo.hole n) (app2_nil r)
  | .app nm k r => congrArg (Fo.app nm k) (app2_nil r)
theorem Fo.one_nil {F : Fo} (h : F.one) : F.isNil = false := by cases F <;> first | exact h.elim | rfl
theorem Fo.one_size {F : Fo} (h : F.one) : 1 ≤ F.size := by
  cases F with
  | nil => exact h.elim
  | hole _ _ => show 1 ≤ 1 + _; omega
  | app _ _ _ => show 1 ≤ 1 + _ + _; omega
/-- a hole, or what stands for it -/
def stood (σ : Nat → Option Fo) (n : Nat) : Fo := match σ n with | some T => T | none => .hole n .nil
def Fo.sub (σ : Nat → Option Fo) : Fo → Fo
  | .nil => .nil
  | .hole n r => (stood σ n).app2 (r.sub σ)
  | .app nm k r => .app nm (k.sub σ) (r.sub σ)
/-- what stands for holes are trees -/
def Ones (σ : Nat → Option Fo) : Prop := σ 0 = none ∧ ∀ n T, σ n = some T → T.one ∧ T.wf
section
variable {σ : Nat → Option Fo}
theorem stood_one (h : Ones σ) (n : Nat) : (stood σ n).one := by
  unfold stood
  cases e : σ n with
  | none => exact rfl
  | some T => exact (h.2 n T e).1
theorem stood_wf (h : Ones σ) {n : Nat} (h1 : 1 ≤ n) (h2 : n ≤ 2147483647) : (stood σ n).wf := by
  unfold stood
  cases e : σ n with
  | none => exact ⟨h1, h2, trivial⟩
  | some T => exact (h.2 n T e).2
theorem Fo.sub_one (h : Ones σ) {F : Fo} (h1 : F.one) : (F.sub σ).one := by
  cases F with
  | nil => exact h1.elim
  | hole n r => cases (show r = .nil from h1); show ((stood σ n).app2 .nil).one; rw [Fo.app2_nil]; exact stood_one h n
  | app nm k r => cases (show r = .nil from h1); exact rfl
theorem Fo.sub_wf (h : Ones σ) : ∀ {F : Fo}, F.wf → (F.sub σ).wf
  | .nil, _ => trivial
  | .hole _ _, hw => Fo.wf_app2 (stood_wf h hw.1 hw.2.1) (sub_wf h hw.2.2)
  | .app _ _ _, hw => ⟨hw.1, sub_wf h hw.2.1, sub_wf h hw.2.2⟩
/-- how many nodes a node becomes -/
def wgt (σ : Nat → Option Fo) (t : TN) : Nat := match σ t.var.toNat with | some T => T.size | none => 1
theorem wgt_hole (n : Nat) (nm : ByteArray) (as : List Int) : wgt σ ⟨n, nm, as⟩ = (stood σ n).size := by
  unfold wgt stood
  show (match σ (n : Int).toNat with | some T => T.size | none => 1) = _
  rw [Int.toNat_natCast]
  cases σ n <;> rfl
theorem Fo.sub_size (h : Ones σ) : ∀ (F : Fo) (o : Nat), (F.sub σ).size = ((F.flat o).map (wgt σ)).sum
  | .nil, _ => rfl
  | .hole n r, o => by
    show ((stood σ n).app2 (r.sub σ)).size = ((⟨n, ByteArray.empty, []⟩ :: r.flat (o + 1) : List TN).map (wgt σ)).sum
    rw [Fo.size_app2, sub_size h r (o + 1), List.map_cons, List.sum_cons, wgt_hole]
  | .app nm k r, o => by
    show 1 + (k.sub σ).size + (r.sub σ).size = ((⟨0, nm, k.offs (o + 1)⟩ :: (k.flat (o + 1) ++ r.flat (o + 1 + k.size)) : List TN).map (wgt σ)).sum
    rw [sub_size h k (o + 1), sub_size h r (o + 1 + k.size), List.map_cons, List.sum_cons, List.map_append, List.sum_append]
    have : wgt σ ⟨0, nm, k.offs (o + 1)⟩ = 1 := by
      unfold wgt
      show (match σ (0 : Int).toNat with | some T => T.size | none => 1) = 1
      rw [show (0 : Int).toNat = 0 from rfl, h.1]
    rw [this]; omega
end
/-! ### Bounds -/
structure ABind where
  hole : Int
  term : List TN
def BindAt (b : List ABind) (i : Nat) : Prop := ∀ h : i < b.length, 1 ≤ b[i].hole ∧ b[i].hole ≤ 2147483647 ∧ (0 < i → (b[i - 1]'(by omega)).hole < b[i].hole) ∧ rightI b[i].term = 0
def RootAt (x : ABind) : Prop := ∀ t, x.term.head? = some t → t.var ≤ x.hole
def FreeAt (b : List ABind) (x : ABind) : Prop := ∀ t ∈ x.term, t.var ∉ b.map ABind.hole
/-- a bound may be -/
def MayP (b : List ABind) : Prop := (∀ i, BindAt b i) ∧ ∀ x ∈ b, RootAt x ∧ FreeAt b x
theorem may_trees {b : List ABind} (h : MayP b) : ∃ bs : List (Nat × Fo), b = bs.map (fun p => ⟨(p.1 : Int), p.2.flat 0⟩) ∧ ∀ p ∈ bs, 1 ≤ p.1 ∧ p.2.one ∧ p.2.wf ∧ p.2.size ≤ 256 := by
  have key : ∀ c : List ABind, (∀ x ∈ c, x ∈ b) → ∃ bs : List (Nat × Fo), c = bs.map (fun p => ⟨(p.1 : Int), p.2.flat 0⟩) ∧ ∀ p ∈ bs, 1 ≤ p.1 ∧ p.2.one ∧ p.2.wf ∧ p.2.size ≤ 256 := by
    intro c
    induction c with
    | nil => intro _; exact ⟨[], rfl, fun p hp => (by cases hp)⟩
    | cons x r ih =>
      intro hc
      obtain ⟨bs, e, hbs⟩ := ih fun y hy => hc y (List.mem_cons_of_mem _ hy)
      obtain ⟨i, hi, rfl⟩ := List.getElem_of_mem (hc x (List.mem_cons_self ..))
      obtain ⟨h1, h2, h3, h4⟩ := h.1 i hi
      obtain ⟨F, f1, f2, f3, f4⟩ := good_tree h4
      refine ⟨(b[i].hole.toNat, F) :: bs, ?_, fun p hp => ?_⟩
      · rw [List.map_cons, ← e, ← f3, Int.toNat_of_nonneg (by omega)]
      · rcases List.mem_cons.1 hp with e | e
        · subst e; exact ⟨by show 1 ≤ b[i].hole.toNat; omega, f1, f2, f4⟩
        · exact hbs p e
  exact key b fun x hx => hx
/-- what stands for a hole -/
def lookB (bs : List (Nat × Fo)) (n : Nat) : Option Fo := (bs.find? (fun p => p.1 == n)).map (·.2)
theorem lookB_mem {bs : List (Nat × Fo)} {n : Nat} {T : Fo} (h : lookB bs n = some T) : (n, T) ∈ bs := by
  unfold lookB at h
  cases e : bs.find? (fun p => p.1 == n) with
  | none => rw [e] at h; cases h
  | some p =>
    rw [e] at h
    have h1 := List.find?_some e
    have h2 := List.mem_of_find?_eq_some e
    obtain ⟨a, b⟩ := p
    have : a = n := by simpa using h1
    have hb : b = T := Option.some.inj h
    rw [this, hb] at h2; exact h2
theorem look_ones {bs : List (Nat × Fo)} (h : ∀ p ∈ bs, 1 ≤ p.1 ∧ p.2.one ∧ p.2.wf ∧ p.2.size ≤ 256) : Ones (lookB bs) := by
  refine ⟨?_, fun n T e => ?_⟩
  · cases e : lookB bs 0 with
    | none => rfl
    | some T => have := (h _ (lookB_mem e)).1; omega
  · have := h _ (lookB_mem e)
    exact ⟨this.2.1, this.2.2.1⟩
end Go.Proofs.YtgcbnndbeoekgaaDoor
end
section
/- terms in lists of nodes, step by step, in plain Lean -/
namespace Go.Proofs.YtgcbnndbeoekgaaDoor
open Go Go.RowKit

section
variable {n : Nat} {rec : Nat → Option Nat}
theorem ordA_app : ∀ (as bs : List Int) (i : Nat), ordA rec n (as ++ bs) i = match ordA rec n as i with | some k => ordA rec n bs k | none => none
  | [], bs, i => rfl
  | a :: r, bs, i => by
    show (if a = i ∧ i < n then (match rec i with | some m => ordA rec n (r ++ bs) m | none => none) else none) = match (if a = i ∧ i < n then (match rec i with | some m => ordA rec n r m | none => none) else none) with | some k => ordA rec n bs k | none => none
    by_cases hc : a = i ∧ i < n
    · rw [if_pos hc, if_pos hc]
      cases rec i with
      | none => rfl
      | some m => exact ordA_app r bs m
    · rw [if_neg hc, if_neg hc]
theorem ordA_step {as : List Int} {i k next m : Nat} (hk : k < as.length) (h : ordA rec n (as.take k) i = some next) (h1 : as[k] = next) (h2 : next < n) (h3 : rec next = some m) : ordA rec n (as.take (k + 1)) i = some m := by
  rw [List.take_succ_eq_append_getElem hk, ordA_app, h]
  show (if as[k] = next ∧ next < n then (match rec next with | some m => some m | none => none) else none) = _
  rw [if_pos ⟨h1, h2⟩, h3]
theorem ordA_fail {as : List Int} {i k next : Nat} (hk : k < as.length) (h : ordA rec n (as.take k) i = some next) (h1 : as[k] ≠ next ∨ ¬ next < n ∨ rec next = none) : ordA rec n as i = none := by
  have e : as = as.take k ++ as[k] :: as.drop (k + 1) := by rw [← List.drop_eq_getElem_cons hk, List.take_append_drop]
  rw [e, ordA_app, h]
  show (if as[k] = next ∧ next < n then (match rec next with | some m => ordA rec n _ m | none => none) else none) = _
  by_cases hc : as[k] = next ∧ next < n
  · rw [if_pos hc]
    rcases h1 with h1 | h1 | h1
    · exact absurd hc.1 h1
    · exact absurd hc.2 h1
    · rw [h1]
  · rw [if_neg hc]
end
section
variable {l : List TN} {i k next m : Nat}
theorem ordN_full (hi : i < l.length) (h : ordA (ordN l) l.length (l[i].args.take l[i].args.length) (i + 1) = some m) : ordN l i = some m := by
  rw [ordN_at hi]; rwa [List.take_length] at h
theorem ordN_fail (hi : i < l.length) (hk : k < l[i].args.length) (h : ordA (ordN l) l.length (l[i].args.take k) (i + 1) = some next) (h1 : l[i].args[k] ≠ next ∨ ¬ next < l.length ∨ ordN l next = none) : ordN l i = none := by
  rw [ordN_at hi]; exact ordA_fail hk h h1
theorem bad_node (hi : i < l.length) (h : ¬ NodeR l[i]) : ¬ GoodN l := fun hg => h (hg.1 _ (List.getElem_mem hi))
theorem bad_end (h : ordN l 0 ≠ some l.length) : ¬ GoodN l := fun hg => h hg.2
end
/-! ### Trees in a list of nodes -/
theorem Fo.split {K : Fo} (h : K.isNil = false) : ∃ T r : Fo, T.one ∧ K = T.app2 r := by
  cases K with
  | nil => cases h
  | hole n r => exact ⟨.hole n .nil, r, rfl, rfl⟩
  | app nm k r => exact ⟨.app nm k .nil, r, rfl, rfl⟩
theorem Fo.one_offs {T : Fo} (h : T.one) (o : Nat) : T.offs o = [(o : Int)] := by
  cases T with
  | nil => exact h.elim
  | hole n r => cases (show r = .nil from h); rfl
  | app nm k r => cases (show r = .nil from h); rfl
theorem Fo.one_cases {T : Fo} (h : T.one) : (∃ n, T = .hole n .nil) ∨ ∃ nm K, T = .app nm K .nil := by
  cases T with
  | nil => exact h.elim
  | hole n r => cases (show r = .nil from h); exact .inl ⟨n, rfl⟩
  | app nm k r => cases (show r = .nil from h); exact .inr ⟨nm, k, rfl⟩
section
variable {l : List TN} {o : Nat}
theorem Seg.whole (F : Fo) : Seg (F.flat 0) 0 F := ⟨[], by simp⟩
theorem Seg.le {F : Fo} (h : Seg l o F) (hF : 1 ≤ F.size) : o + F.size ≤ l.length := by
  obtain ⟨r, h⟩ := h
  have := congrArg List.length h
  rw [List.length_drop, List.length_append, Fo.flat_len] at this
  omega
theorem Seg.app2 {T r : Fo} (h : Seg l o (T.app2 r)) : Seg l o T ∧ Seg l (o + T.size) r := by
  obtain ⟨q, h⟩ := h
  rw [Fo.flat_app2, List.append_assoc] at h
  refine ⟨⟨_, h⟩, q, ?_⟩
  have := congrArg (List.drop T.size) h
  rw [List.drop_drop, List.drop_left' (Fo.flat_len _ _)] at this
  exact this
theorem Seg.hole {n : Nat} (h : Seg l o (.hole n .nil)) : ∃ hi : o < l.length, l[o] = ⟨(n : Int), ByteArray.empty, []⟩ := by
  have hi : o < l.length := by have := h.le (by show 1 ≤ 1 + 0; omega); have e : (Fo.hole n .nil).size = 1 := rfl; omega
  refine ⟨hi, ?_⟩
  obtain ⟨q, h⟩ := h
  rw [List.drop_eq_getElem_cons hi] at h
  exact (List.cons.inj h).1
theorem Seg.app {nm : ByteArray} {K : Fo} (h : Seg l o (.app nm K .nil)) : (∃ hi : o < l.length, l[o] = ⟨0, nm, K.offs (o + 1)⟩) ∧ Seg l (o + 1) K := by
  have hi : o < l.length := by have := h.le (by show 1 ≤ 1 + K.size + 0; omega); have e : (Fo.app nm K .nil).size = 1 + K.size + 0 := rfl; omega
  obtain ⟨q, h⟩ := h
  rw [List.drop_eq_getElem_cons hi] at h
  obtain ⟨h1, h2⟩ := List.cons.inj (show l[o] :: l.drop (o + 1) = ⟨0, nm, K.offs (o + 1)⟩ :: (K.flat (o + 1) ++ [] ++ q) from h)
  exact ⟨⟨hi, h1⟩, q, by rw [h2, List.append_nil]⟩
end
/-- how many trees -/
def Fo.cnt : Fo → Nat
  | .nil => 0
  | .hole _ r => 1 + r.cnt
  | .app _ _ r => 1 + r.cnt
theorem Fo.offs_len : ∀ (F : Fo) (o : Nat), (F.offs o).length = F.cnt
  | .nil, _ => rfl
  | .hole _ r, o => by show (r.offs (o + 1)).length + 1 = 1 + r.cnt; rw [offs_len r]; omega
  | .app _ k r, o => by show (r.offs (o + 1 + k.size)).length + 1 = 1 + r.cnt; rw [offs_len r]; omega
theorem Fo.wf_app2_iff : ∀ {F G : Fo}, (F.app2 G).wf ↔ F.wf ∧ G.wf
  | .nil, G => ⟨fun h => ⟨trivial, h⟩, fun h => h.2⟩
  | .hole _ r, G => ⟨fun h => ⟨⟨h.1, h.2.1, (wf_app2_iff.1 h.2.2).1⟩, (wf_app2_iff.1 h.2.2).2⟩, fun h => ⟨h.1.1, h.1.2.1, wf_app2_iff.2 ⟨h.1.2.2, h.2⟩⟩⟩
  | .app _ _ r, G => ⟨fun h => ⟨⟨h.1, h.2.1, (wf_app2_iff.1 h.2.2).1⟩, (wf_app2_iff.1 h.2.2).2⟩, fun h => ⟨h.1.1, h.1.2.1, wf_app2_iff.2 ⟨h.1.2.2, h.2⟩⟩⟩
theorem Fo.sub_app2 (σ : Nat → Option Fo) : ∀ F G : Fo, (F.app2 G).sub σ = (F.sub σ).app2 (G.sub σ)
  | .nil, G => rfl
  | .hole n r, G => by show (stood σ n).app2 ((r.app2 G).sub σ) = ((stood σ n).app2 (r.sub σ)).app2 (G.sub σ); rw [sub_app2 σ r, app2_assoc]
  | .app nm k r, G => congrArg (Fo.app nm (k.sub σ)) (sub_app2 σ r G)
where app2_assoc : ∀ F G H : Fo, F.app2 (G.app2 H) = (F.app2 G).app2 H
  | .nil, _, _ => rfl
  | .hole n r, G, H => congrArg (Fo.hole n) (app2_assoc r G H)
  | .app nm k r, G, H => congrArg (Fo.app nm k) (app2_assoc r G H)
/-! ### How long a text is -/
theorem Fo.txt_le : ∀ (F : Fo) (b : Bool), F.wf → (F.txt b).length ≤ 40 * F.size
  | .nil, _, _ => Nat.le_refl _
  | .hole n r, b, h => by
    have h1 := digs_len 9 n (by have := h.2.1; omega)
    have h2 := txt_le r true h.2.2
    have h3 : (if b = true then [(44 : UInt8)] else []).length ≤ 1 := by cases b <;> simp
    show ((if b = true then [(44 : UInt8)] else []) ++ (63 :: digs n ++ r.txt true)).length ≤ 40 * (1 + r.size)
    simp only [List.length_append, List.length_cons]
    omega
  | .app nm k r, b, h => by
    have h0 : nm.data.toList.length ≤ 32 := by
      cases e : nm.data.toList with
      | nil => simp
      | cons c q =>
        have := h.1
        rw [e] at this
        simp only [rightB, Bool.and_eq_true, decide_eq_true_eq] at this
        simp only [List.length_cons]; omega
    have h1 := txt_le k false h.2.1
    have h2 := txt_le r true h.2.2
    have h3 : (if b = true then [(44 : UInt8)] else []).length ≤ 1 := by cases b <;> simp
    have h4 : (par k.isNil (k.txt false)).length ≤ (k.txt false).length + 2 := by
      unfold par
      split
      · simp
      · simp
    show ((if b = true then [(44 : UInt8)] else []) ++ (nm.data.toList ++ par k.isNil (k.txt false) ++ r.txt true)).length ≤ 40 * (1 + k.size + r.size)
    simp only [List.length_append]
    omega
end Go.Proofs.YtgcbnndbeoekgaaDoor
end
section
/- trees of a node's arguments, one by one, in plain Lean -/
namespace Go.Proofs.YtgcbnndbeoekgaaDoor
open Go Go.RowKit

theorem Fo.app2_assoc (F G H : Fo) : F.app2 (G.app2 H) = (F.app2 G).app2 H := Fo.sub_app2.app2_assoc F G H
theorem Fo.cnt_app2 : ∀ F G : Fo, (F.app2 G).cnt = F.cnt + G.cnt
  | .nil, G => (Nat.zero_add _).symm
  | .hole _ r, G => by show 1 + (r.app2 G).cnt = 1 + r.cnt + G.cnt; rw [cnt_app2 r]; omega
  | .app _ _ r, G => by show 1 + (r.app2 G).cnt = 1 + r.cnt + G.cnt; rw [cnt_app2 r]; omega
theorem Fo.one_cnt {T : Fo} (h : T.one) : T.cnt = 1 := by
  rcases Fo.one_cases h with ⟨n, rfl⟩ | ⟨nm, K, rfl⟩ <;> rfl
theorem Fo.cnt_nil {F : Fo} (h : F.cnt = 0) : F = .nil := by
  cases F with
  | nil => rfl
  | hole n r => have : 1 + r.cnt = 0 := h; omega
  | app nm k r => have : 1 + r.cnt = 0 := h; omega
theorem Fo.nil_cnt {F : Fo} : F.isNil = true ↔ F.cnt = 0 := by
  constructor
  · intro h; cases F <;> first | rfl | cases h
  · intro h; rw [Fo.cnt_nil h]; rfl
theorem Fo.cnt_size (F : Fo) : F.cnt ≤ F.size := by
  induction F with
  | nil => exact Nat.le_refl _
  | hole n r ih => show 1 + r.cnt ≤ 1 + r.size; omega
  | app nm k r _ ih => show 1 + r.cnt ≤ 1 + k.size + r.size; omega
/-- a node's arguments, a part of them gone through -/
structure Part (l : List TN) (o : Nat) (K A R : Fo) (k : Nat) : Prop where
  eq : K = A.app2 R
  cnt : A.cnt = k
  wf : R.wf
  seg : Seg l (o + 1 + A.size) R
theorem Part.start {l : List TN} {o : Nat} {K : Fo} (hw : K.wf) (h : Seg l (o + 1) K) : Part l o K .nil K 0 := ⟨rfl, rfl, hw, h⟩
section
variable {l : List TN} {o k : Nat} {K A R : Fo}
theorem Part.le (h : Part l o K A R k) : k ≤ K.cnt := by rw [h.eq, Fo.cnt_app2, h.cnt]; omega
theorem Part.last (h : Part l o K A R k) (hk : ¬ k < K.cnt) : A = K := by
  have h1 := h.eq
  have h2 : R.cnt = 0 := by have := Fo.cnt_app2 A R; rw [← h1, h.cnt] at this; omega
  rw [Fo.cnt_nil h2, Fo.app2_nil] at h1
  exact h1.symm
/-- the next one -/
theorem Part.next (h : Part l o K A R k) (hk : k < K.cnt) : ∃ T r, T.one ∧ T.wf ∧ Seg l (o + 1 + A.size) T ∧ (∃ hk' : k < (K.offs (o + 1)).length, (K.offs (o + 1))[k] = ((o + 1 + A.size : Nat) : Int)) ∧ Part l o K (A.app2 T) r (k + 1) ∧ T.size + A.size ≤ K.size := by
  have hR : R.isNil = false := by
    cases e : R.isNil with
    | false => rfl
    | true =>
      have h1 := Fo.nil_cnt.1 e
      have := Fo.cnt_app2 A R
      rw [← h.eq, h.cnt] at this; omega
  obtain ⟨T, r, h1, rfl⟩ := Fo.split hR
  have hw := Fo.wf_app2_iff.1 h.wf
  obtain ⟨s1, s2⟩ := h.seg.app2
  have hk' : k < (K.offs (o + 1)).length := by rw [Fo.offs_len]; exact hk
  refine ⟨T, r, h1, hw.1, s1, ⟨hk', ?_⟩, ⟨by rw [h.eq, Fo.app2_assoc], by rw [Fo.cnt_app2, h.cnt, Fo.one_cnt h1], hw.2, by rw [Fo.size_app2, ← Nat.add_assoc]; exact s2⟩, ?_⟩
  · have e : K.offs (o + 1) = A.offs (o + 1) ++ ((o + 1 + A.size : Nat) : Int) :: r.offs (o + 1 + A.size + T.size) := by
      rw [h.eq, Fo.offs_app2, Fo.offs_app2, Fo.one_offs h1]; rfl
    have hl : (A.offs (o + 1)).length = k := by rw [Fo.offs_len, h.cnt]
    have : (K.offs (o + 1))[k]? = some ((o + 1 + A.size : Nat) : Int) := by rw [e, List.getElem?_append_right (by omega), hl]; simp
    rw [List.getElem?_eq_getElem hk'] at this
    exact Option.some.inj this
  · have := congrArg Fo.size h.eq
    rw [Fo.size_app2, Fo.size_app2] at this; omega
end
/-- what has been written of a node's arguments -/
def parT (A : Fo) : List UInt8 := if A.cnt = 0 then [] else 40 :: A.txt false
theorem parT_next {A T : Fo} (h : T.one) : parT (A.app2 T) = parT A ++ ((if A.cnt = 0 then [40] else [44]) ++ T.txt false) := by
  unfold parT
  rw [Fo.cnt_app2, Fo.one_cnt h, if_neg (by omega), Fo.txt_app2]
  by_cases h0 : A.cnt = 0
  · rw [if_pos h0, if_pos h0, Fo.cnt_nil h0]; rfl
  · have hn : A.isNil = false := by cases e : A.isNil with | false => rfl | true => exact absurd (Fo.nil_cnt.1 e) h0
    rw [if_neg h0, if_neg h0, hn]
    have : T.txt true = 44 :: T.txt false := Fo.txt_comma (Fo.one_nil h)
    simp [this]
theorem parT_end (nm : ByteArray) (K : Fo) : nm.data.toList ++ (parT K ++ (if K.cnt = 0 then [] else [41])) = (Fo.app nm K .nil).txt false := by
  show _ = [] ++ (nm.data.toList ++ par K.isNil (K.txt false) ++ [])
  unfold parT par
  by_cases h0 : K.cnt = 0
  · rw [if_pos h0, if_pos h0, if_pos (Fo.nil_cnt.2 h0)]; simp
  · rw [if_neg h0, if_neg h0, if_neg (fun e => h0 (Fo.nil_cnt.1 e))]; simp
theorem hole_txt (n : Nat) : (Fo.hole n .nil).txt false = 63 :: digs n := by simp [Fo.txt]
section
variable {σ : Nat → Option Fo}
theorem Fo.sub_cnt (h : Ones σ) : ∀ F : Fo, (F.sub σ).cnt = F.cnt
  | .nil => rfl
  | .hole n r => by show ((stood σ n).app2 (r.sub σ)).cnt = 1 + r.cnt; rw [cnt_app2, one_cnt (stood_one h n), sub_cnt h r]
  | .app _ k r => by show 1 + (r.sub σ).cnt = 1 + r.cnt; rw [sub_cnt h r]
theorem Fo.sub_hole {n : Nat} : (Fo.hole n .nil).sub σ = stood σ n := by show (stood σ n).app2 .nil = _; rw [Fo.app2_nil]
theorem stood_none {n : Nat} (h : σ n = none) : stood σ n = .hole n .nil := by unfold stood; rw [h]
theorem stood_some {n : Nat} {T : Fo} (h : σ n = some T) : stood σ n = T := by unfold stood; rw [h]
theorem Fo.sub_next (A T : Fo) : (A.app2 T).sub σ = (A.sub σ).app2 (T.sub σ) := Fo.sub_app2 σ A T
end
end Go.Proofs.YtgcbnndbeoekgaaDoor
end
