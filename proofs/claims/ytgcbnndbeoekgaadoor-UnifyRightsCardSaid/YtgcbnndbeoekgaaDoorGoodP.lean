/- terms in lists of nodes, step by step, in plain Lean -/
import Derived.Test.YtgcbnndbeoekgaaDoorSubst
set_option linter.unusedSimpArgs false
set_option linter.unusedVariables false
namespace Go.Proofs.YtgcbnndbeoekgaaDoor
open Go Go.RowKit

section
variable {n : Nat} {rec : Nat → Option Nat}
theorem ordA_app : ∀ (as bs : List Int) (i : Nat), ordA rec n (as ++ bs) i = match ordA rec n as i with | some k => ordA rec n bs k | none => none
  | [], bs, i => rfl
  | a :: r, bs, i => by
    show (if a = i ∧ i < n then (match rec i with | some m => ordA rec n (r ++ bs) m | none => none) else none) = match (if a = i ∧ i < n then (match rec i with | some m => ordA rec n r m | none => none) else none) with | some k => ordA rec n bs k | none => none
    by_cases hc : a = i ∧ i < n
    · rw [if_pos hc, if_pos hc]
      cases rec i with
      | none => rfl
      | some m => exact ordA_app r bs m
    · rw [if_neg hc, if_neg hc]
theorem ordA_step {as : List Int} {i k next m : Nat} (hk : k < as.length) (h : ordA rec n (as.take k) i = some next) (h1 : as[k] = next) (h2 : next < n) (h3 : rec next = some m) : ordA rec n (as.take (k + 1)) i = some m := by
  rw [List.take_succ_eq_append_getElem hk, ordA_app, h]
  show (if as[k] = next ∧ next < n then (match rec next with | some m => some m | none => none) else none) = _
  rw [if_pos ⟨h1, h2⟩, h3]
theorem ordA_fail {as : List Int} {i k next : Nat} (hk : k < as.length) (h : ordA rec n (as.take k) i = some next) (h1 : as[k] ≠ next ∨ ¬ next < n ∨ rec next = none) : ordA rec n as i = none := by
  have e : as = as.take k ++ as[k] :: as.drop (k + 1) := by rw [← List.drop_eq_getElem_cons hk, List.take_append_drop]
  rw [e, ordA_app, h]
  show (if as[k] = next ∧ next < n then (match rec next with | some m => ordA rec n _ m | none => none) else none) = _
  by_cases hc : as[k] = next ∧ next < n
  · rw [if_pos hc]
    rcases h1 with h1 | h1 | h1
    · exact absurd hc.1 h1
    · exact absurd hc.2 h1
    · rw [h1]
  · rw [if_neg hc]
end
section
variable {l : List TN} {i k next m : Nat}
theorem ordN_full (hi : i < l.length) (h : ordA (ordN l) l.length (l[i].args.take l[i].args.length) (i + 1) = some m) : ordN l i = some m := by
  rw [ordN_at hi]; rwa [List.take_length] at h
theorem ordN_fail (hi : i < l.length) (hk : k < l[i].args.length) (h : ordA (ordN l) l.length (l[i].args.take k) (i + 1) = some next) (h1 : l[i].args[k] ≠ next ∨ ¬ next < l.length ∨ ordN l next = none) : ordN l i = none := by
  rw [ordN_at hi]; exact ordA_fail hk h h1
theorem bad_node (hi : i < l.length) (h : ¬ NodeR l[i]) : ¬ GoodN l := fun hg => h (hg.1 _ (List.getElem_mem hi))
theorem bad_ord (hi : i < l.length) (h : ordN l i = none) : ¬ GoodN l := fun hg => ordN_within l.length 0 l.length (by omega) hg.2 i (by omega) hi h
theorem bad_end (h : ordN l 0 ≠ some l.length) : ¬ GoodN l := fun hg => h hg.2
end
/-! ### Trees in a list of nodes -/
theorem Fo.split {K : Fo} (h : K.isNil = false) : ∃ T r : Fo, T.one ∧ K = T.app2 r := by
  cases K with
  | nil => cases h
  | hole n r => exact ⟨.hole n .nil, r, rfl, rfl⟩
  | app nm k r => exact ⟨.app nm k .nil, r, rfl, rfl⟩
theorem Fo.one_offs {T : Fo} (h : T.one) (o : Nat) : T.offs o = [(o : Int)] := by
  cases T with
  | nil => exact h.elim
  | hole n r => cases (show r = .nil from h); rfl
  | app nm k r => cases (show r = .nil from h); rfl
theorem Fo.one_cases {T : Fo} (h : T.one) : (∃ n, T = .hole n .nil) ∨ ∃ nm K, T = .app nm K .nil := by
  cases T with
  | nil => exact h.elim
  | hole n r => cases (show r = .nil from h); exact .inl ⟨n, rfl⟩
  | app nm k r => cases (show r = .nil from h); exact .inr ⟨nm, k, rfl⟩
section
variable {l : List TN} {o : Nat}
theorem Seg.whole (F : Fo) : Seg (F.flat 0) 0 F := ⟨[], by simp⟩
theorem Seg.le {F : Fo} (h : Seg l o F) (hF : 1 ≤ F.size) : o + F.size ≤ l.length := by
  obtain ⟨r, h⟩ := h
  have := congrArg List.length h
  rw [List.length_drop, List.length_append, Fo.flat_len] at this
  omega
theorem Seg.app2 {T r : Fo} (h : Seg l o (T.app2 r)) : Seg l o T ∧ Seg l (o + T.size) r := by
  obtain ⟨q, h⟩ := h
  rw [Fo.flat_app2, List.append_assoc] at h
  refine ⟨⟨_, h⟩, q, ?_⟩
  have := congrArg (List.drop T.size) h
  rw [List.drop_drop, List.drop_left' (Fo.flat_len _ _)] at this
  exact this
theorem Seg.hole {n : Nat} (h : Seg l o (.hole n .nil)) : ∃ hi : o < l.length, l[o] = ⟨(n : Int), ByteArray.empty, []⟩ := by
  have hi : o < l.length := by have := h.le (by show 1 ≤ 1 + 0; omega); have e : (Fo.hole n .nil).size = 1 := rfl; omega
  refine ⟨hi, ?_⟩
  obtain ⟨q, h⟩ := h
  rw [List.drop_eq_getElem_cons hi] at h
  exact (List.cons.inj h).1
theorem Seg.app {nm : ByteArray} {K : Fo} (h : Seg l o (.app nm K .nil)) : (∃ hi : o < l.length, l[o] = ⟨0, nm, K.offs (o + 1)⟩) ∧ Seg l (o + 1) K := by
  have hi : o < l.length := by have := h.le (by show 1 ≤ 1 + K.size + 0; omega); have e : (Fo.app nm K .nil).size = 1 + K.size + 0 := rfl; omega
  obtain ⟨q, h⟩ := h
  rw [List.drop_eq_getElem_cons hi] at h
  obtain ⟨h1, h2⟩ := List.cons.inj (show l[o] :: l.drop (o + 1) = ⟨0, nm, K.offs (o + 1)⟩ :: (K.flat (o + 1) ++ [] ++ q) from h)
  exact ⟨⟨hi, h1⟩, q, by rw [h2, List.append_nil]⟩
end
/-- how many trees -/
def Fo.cnt : Fo → Nat
  | .nil => 0
  | .hole _ r => 1 + r.cnt
  | .app _ _ r => 1 + r.cnt
theorem Fo.offs_len : ∀ (F : Fo) (o : Nat), (F.offs o).length = F.cnt
  | .nil, _ => rfl
  | .hole _ r, o => by show (r.offs (o + 1)).length + 1 = 1 + r.cnt; rw [offs_len r]; omega
  | .app _ k r, o => by show (r.offs (o + 1 + k.size)).length + 1 = 1 + r.cnt; rw [offs_len r]; omega
theorem Fo.wf_app2_iff : ∀ {F G : Fo}, (F.app2 G).wf ↔ F.wf ∧ G.wf
  | .nil, G => ⟨fun h => ⟨trivial, h⟩, fun h => h.2⟩
  | .hole _ r, G => ⟨fun h => ⟨⟨h.1, h.2.1, (wf_app2_iff.1 h.2.2).1⟩, (wf_app2_iff.1 h.2.2).2⟩, fun h => ⟨h.1.1, h.1.2.1, wf_app2_iff.2 ⟨h.1.2.2, h.2⟩⟩⟩
  | .app _ _ r, G => ⟨fun h => ⟨⟨h.1, h.2.1, (wf_app2_iff.1 h.2.2).1⟩, (wf_app2_iff.1 h.2.2).2⟩, fun h => ⟨h.1.1, h.1.2.1, wf_app2_iff.2 ⟨h.1.2.2, h.2⟩⟩⟩
theorem Fo.sub_app2 (σ : Nat → Option Fo) : ∀ F G : Fo, (F.app2 G).sub σ = (F.sub σ).app2 (G.sub σ)
  | .nil, G => rfl
  | .hole n r, G => by show (stood σ n).app2 ((r.app2 G).sub σ) = ((stood σ n).app2 (r.sub σ)).app2 (G.sub σ); rw [sub_app2 σ r, app2_assoc]
  | .app nm k r, G => congrArg (Fo.app nm (k.sub σ)) (sub_app2 σ r G)
where app2_assoc : ∀ F G H : Fo, F.app2 (G.app2 H) = (F.app2 G).app2 H
  | .nil, _, _ => rfl
  | .hole n r, G, H => congrArg (Fo.hole n) (app2_assoc r G H)
  | .app nm k r, G, H => congrArg (Fo.app nm k) (app2_assoc r G H)
/-! ### How long a text is -/
theorem Fo.txt_le : ∀ (F : Fo) (b : Bool), F.wf → (F.txt b).length ≤ 40 * F.size
  | .nil, _, _ => Nat.le_refl _
  | .hole n r, b, h => by
    have h1 := digs_len 9 n (by have := h.2.1; omega)
    have h2 := txt_le r true h.2.2
    have h3 : (if b = true then [(44 : UInt8)] else []).length ≤ 1 := by cases b <;> simp
    show ((if b = true then [(44 : UInt8)] else []) ++ (63 :: digs n ++ r.txt true)).length ≤ 40 * (1 + r.size)
    simp only [List.length_append, List.length_cons]
    omega
  | .app nm k r, b, h => by
    have h0 : nm.data.toList.length ≤ 32 := by
      cases e : nm.data.toList with
      | nil => simp
      | cons c q =>
        have := h.1
        rw [e] at this
        simp only [rightB, Bool.and_eq_true, decide_eq_true_eq] at this
        simp only [List.length_cons]; omega
    have h1 := txt_le k false h.2.1
    have h2 := txt_le r true h.2.2
    have h3 : (if b = true then [(44 : UInt8)] else []).length ≤ 1 := by cases b <;> simp
    have h4 : (par k.isNil (k.txt false)).length ≤ (k.txt false).length + 2 := by
      unfold par
      split
      · simp
      · simp
    show ((if b = true then [(44 : UInt8)] else []) ++ (nm.data.toList ++ par k.isNil (k.txt false) ++ r.txt true)).length ≤ 40 * (1 + k.size + r.size)
    simp only [List.length_append]
    omega
end Go.Proofs.YtgcbnndbeoekgaaDoor
