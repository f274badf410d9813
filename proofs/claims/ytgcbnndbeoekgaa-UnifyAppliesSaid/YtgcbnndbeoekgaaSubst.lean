/- what stands for holes is put in their places, in plain Lean -/
import Derived.Test.YtgcbnndbeoekgaaGood
set_option linter.unusedSimpArgs false
set_option linter.unusedVariables false
namespace Go.Proofs.Ytgcbnndbeoekgaa
open Go Go.RowKit

def Fo.app2 : Fo → Fo → Fo
  | .nil, G => G
  | .hole n r, G => .hole n (r.app2 G)
  | .app nm k r, G => .app nm k (r.app2 G)
theorem Fo.size_app2 : ∀ F G : Fo, (F.app2 G).size = F.size + G.size
  | .nil, G => (Nat.zero_add _).symm
  | .hole _ r, G => by show 1 + (r.app2 G).size = 1 + r.size + G.size; rw [size_app2 r]; omega
  | .app _ k r, G => by show 1 + k.size + (r.app2 G).size = 1 + k.size + r.size + G.size; rw [size_app2 r]; omega
theorem Fo.flat_app2 : ∀ (F G : Fo) (o : Nat), (F.app2 G).flat o = F.flat o ++ G.flat (o + F.size)
  | .nil, G, o => rfl
  | .hole n r, G, o => by
    show _ :: (r.app2 G).flat (o + 1) = _ :: (r.flat (o + 1) ++ G.flat (o + (1 + r.size)))
    rw [flat_app2 r, Nat.add_assoc]
  | .app nm k r, G, o => by
    show _ :: (k.flat (o + 1) ++ (r.app2 G).flat (o + 1 + k.size)) = _ :: (k.flat (o + 1) ++ r.flat (o + 1 + k.size) ++ G.flat (o + (1 + k.size + r.size)))
    rw [flat_app2 r, List.append_assoc, show o + 1 + k.size + r.size = o + (1 + k.size + r.size) by omega]
theorem Fo.offs_app2 : ∀ (F G : Fo) (o : Nat), (F.app2 G).offs o = F.offs o ++ G.offs (o + F.size)
  | .nil, G, o => rfl
  | .hole n r, G, o => by
    show _ :: (r.app2 G).offs (o + 1) = _ :: (r.offs (o + 1) ++ G.offs (o + (1 + r.size)))
    rw [offs_app2 r, Nat.add_assoc]
  | .app nm k r, G, o => by
    show _ :: (r.app2 G).offs (o + 1 + k.size) = _ :: (r.offs (o + 1 + k.size) ++ G.offs (o + (1 + k.size + r.size)))
    rw [offs_app2 r, show o + 1 + k.size + r.size = o + (1 + k.size + r.size) by omega]
theorem Fo.txt_app2 : ∀ (F G : Fo) (b : Bool), (F.app2 G).txt b = F.txt b ++ G.txt (b || !F.isNil)
  | .nil, G, b => by simp [Fo.app2, Fo.txt, Fo.isNil]
  | .hole n r, G, b => by
    show _ ++ (63 :: digs n ++ (r.app2 G).txt true) = (_ ++ (63 :: digs n ++ r.txt true)) ++ G.txt (b || !false)
    rw [txt_app2 r]; simp
  | .app nm k r, G, b => by
    show _ ++ (nm.data.toList ++ par k.isNil (k.txt false) ++ (r.app2 G).txt true) = (_ ++ (nm.data.toList ++ par k.isNil (k.txt false) ++ r.txt true)) ++ G.txt (b || !false)
    rw [txt_app2 r]; simp
theorem Fo.isNil_app2 : ∀ F G : Fo, (F.app2 G).isNil = (F.isNil && G.isNil)
  | .nil, G => by simp [Fo.app2, Fo.isNil]
  | .hole _ _, _ => rfl
  | .app _ _ _, _ => rfl
theorem Fo.wf_app2 : ∀ {F G : Fo}, F.wf → G.wf → (F.app2 G).wf
  | .nil, _, _, h => h
  | .hole _ _, _, h, h' => ⟨h.1, h.2.1, wf_app2 h.2.2 h'⟩
  | .app _ _ _, _, h, h' => ⟨h.1, h.2.1, wf_app2 h.2.2 h'⟩
theorem Fo.app2_nil : ∀ F : Fo, F.app2 .nil = F
  | .nil => rfl
  | .hole n r => congrArg (Fo.hole n) (app2_nil r)
  | .app nm k r => congrArg (Fo.app nm k) (app2_nil r)
theorem Fo.one_nil {F : Fo} (h : F.one) : F.isNil = false := by cases F <;> first | exact h.elim | rfl
theorem Fo.one_size {F : Fo} (h : F.one) : 1 ≤ F.size := by
  cases F with
  | nil => exact h.elim
  | hole _ _ => show 1 ≤ 1 + _; omega
  | app _ _ _ => show 1 ≤ 1 + _ + _; omega
/-- a hole, or what stands for it -/
def stood (σ : Nat → Option Fo) (n : Nat) : Fo := match σ n with | some T => T | none => .hole n .nil
def Fo.sub (σ : Nat → Option Fo) : Fo → Fo
  | .nil => .nil
  | .hole n r => (stood σ n).app2 (r.sub σ)
  | .app nm k r => .app nm (k.sub σ) (r.sub σ)
/-- what stands for holes are trees -/
def Ones (σ : Nat → Option Fo) : Prop := σ 0 = none ∧ ∀ n T, σ n = some T → T.one ∧ T.wf
section
variable {σ : Nat → Option Fo}
theorem stood_one (h : Ones σ) (n : Nat) : (stood σ n).one := by
  unfold stood
  cases e : σ n with
  | none => exact rfl
  | some T => exact (h.2 n T e).1
theorem stood_wf (h : Ones σ) {n : Nat} (h1 : 1 ≤ n) (h2 : n ≤ 2147483647) : (stood σ n).wf := by
  unfold stood
  cases e : σ n with
  | none => exact ⟨h1, h2, trivial⟩
  | some T => exact (h.2 n T e).2
theorem Fo.sub_isNil (h : Ones σ) : ∀ F : Fo, (F.sub σ).isNil = F.isNil
  | .nil => rfl
  | .hole n r => by show ((stood σ n).app2 (r.sub σ)).isNil = false; rw [Fo.isNil_app2, Fo.one_nil (stood_one h n)]; rfl
  | .app _ _ _ => rfl
theorem Fo.sub_one (h : Ones σ) {F : Fo} (h1 : F.one) : (F.sub σ).one := by
  cases F with
  | nil => exact h1.elim
  | hole n r => cases (show r = .nil from h1); show ((stood σ n).app2 .nil).one; rw [Fo.app2_nil]; exact stood_one h n
  | app nm k r => cases (show r = .nil from h1); exact rfl
theorem Fo.sub_wf (h : Ones σ) : ∀ {F : Fo}, F.wf → (F.sub σ).wf
  | .nil, _ => trivial
  | .hole _ _, hw => Fo.wf_app2 (stood_wf h hw.1 hw.2.1) (sub_wf h hw.2.2)
  | .app _ _ _, hw => ⟨hw.1, sub_wf h hw.2.1, sub_wf h hw.2.2⟩
/-- how many nodes a node becomes -/
def wgt (σ : Nat → Option Fo) (t : TN) : Nat := match σ t.var.toNat with | some T => T.size | none => 1
theorem wgt_hole (n : Nat) (nm : ByteArray) (as : List Int) : wgt σ ⟨n, nm, as⟩ = (stood σ n).size := by
  unfold wgt stood
  show (match σ (n : Int).toNat with | some T => T.size | none => 1) = _
  rw [Int.toNat_natCast]
  cases σ n <;> rfl
theorem Fo.sub_size (h : Ones σ) : ∀ (F : Fo) (o : Nat), (F.sub σ).size = ((F.flat o).map (wgt σ)).sum
  | .nil, _ => rfl
  | .hole n r, o => by
    show ((stood σ n).app2 (r.sub σ)).size = ((⟨n, ByteArray.empty, []⟩ :: r.flat (o + 1) : List TN).map (wgt σ)).sum
    rw [Fo.size_app2, sub_size h r (o + 1), List.map_cons, List.sum_cons, wgt_hole]
  | .app nm k r, o => by
    show 1 + (k.sub σ).size + (r.sub σ).size = ((⟨0, nm, k.offs (o + 1)⟩ :: (k.flat (o + 1) ++ r.flat (o + 1 + k.size)) : List TN).map (wgt σ)).sum
    rw [sub_size h k (o + 1), sub_size h r (o + 1 + k.size), List.map_cons, List.sum_cons, List.map_append, List.sum_append]
    have : wgt σ ⟨0, nm, k.offs (o + 1)⟩ = 1 := by
      unfold wgt
      show (match σ (0 : Int).toNat with | some T => T.size | none => 1) = 1
      rw [show (0 : Int).toNat = 0 from rfl, h.1]
    rw [this]; omega
end
/-! ### Bounds -/
structure ABind where
  hole : Int
  term : List TN
def BindAt (b : List ABind) (i : Nat) : Prop := ∀ h : i < b.length, 1 ≤ b[i].hole ∧ b[i].hole ≤ 2147483647 ∧ (0 < i → (b[i - 1]'(by omega)).hole < b[i].hole) ∧ rightI b[i].term = 0
def RootAt (x : ABind) : Prop := ∀ t, x.term.head? = some t → t.var ≤ x.hole
def FreeAt (b : List ABind) (x : ABind) : Prop := ∀ t ∈ x.term, t.var ∉ b.map ABind.hole
/-- a bound may be -/
def MayP (b : List ABind) : Prop := (∀ i, BindAt b i) ∧ ∀ x ∈ b, RootAt x ∧ FreeAt b x
theorem may_trees {b : List ABind} (h : MayP b) : ∃ bs : List (Nat × Fo), b = bs.map (fun p => ⟨(p.1 : Int), p.2.flat 0⟩) ∧ ∀ p ∈ bs, 1 ≤ p.1 ∧ p.2.one ∧ p.2.wf ∧ p.2.size ≤ 256 := by
  have key : ∀ c : List ABind, (∀ x ∈ c, x ∈ b) → ∃ bs : List (Nat × Fo), c = bs.map (fun p => ⟨(p.1 : Int), p.2.flat 0⟩) ∧ ∀ p ∈ bs, 1 ≤ p.1 ∧ p.2.one ∧ p.2.wf ∧ p.2.size ≤ 256 := by
    intro c
    induction c with
    | nil => intro _; exact ⟨[], rfl, fun p hp => (by cases hp)⟩
    | cons x r ih =>
      intro hc
      obtain ⟨bs, e, hbs⟩ := ih fun y hy => hc y (List.mem_cons_of_mem _ hy)
      obtain ⟨i, hi, rfl⟩ := List.getElem_of_mem (hc x (List.mem_cons_self ..))
      obtain ⟨h1, h2, h3, h4⟩ := h.1 i hi
      obtain ⟨F, f1, f2, f3, f4⟩ := good_tree h4
      refine ⟨(b[i].hole.toNat, F) :: bs, ?_, fun p hp => ?_⟩
      · rw [List.map_cons, ← e, ← f3, Int.toNat_of_nonneg (by omega)]
      · rcases List.mem_cons.1 hp with e | e
        · subst e; exact ⟨by show 1 ≤ b[i].hole.toNat; omega, f1, f2, f4⟩
        · exact hbs p e
  exact key b fun x hx => hx
/-- what stands for a hole -/
def lookB (bs : List (Nat × Fo)) (n : Nat) : Option Fo := (bs.find? (fun p => p.1 == n)).map (·.2)
theorem lookB_mem {bs : List (Nat × Fo)} {n : Nat} {T : Fo} (h : lookB bs n = some T) : (n, T) ∈ bs := by
  unfold lookB at h
  cases e : bs.find? (fun p => p.1 == n) with
  | none => rw [e] at h; cases h
  | some p =>
    rw [e] at h
    have h1 := List.find?_some e
    have h2 := List.mem_of_find?_eq_some e
    obtain ⟨a, b⟩ := p
    have : a = n := by simpa using h1
    have hb : b = T := Option.some.inj h
    rw [this, hb] at h2; exact h2
theorem look_ones {bs : List (Nat × Fo)} (h : ∀ p ∈ bs, 1 ≤ p.1 ∧ p.2.one ∧ p.2.wf ∧ p.2.size ≤ 256) : Ones (lookB bs) := by
  refine ⟨?_, fun n T e => ?_⟩
  · cases e : lookB bs 0 with
    | none => rfl
    | some T => have := (h _ (lookB_mem e)).1; omega
  · have := h _ (lookB_mem e)
    exact ⟨this.2.1, this.2.2.1⟩
end Go.Proofs.Ytgcbnndbeoekgaa
