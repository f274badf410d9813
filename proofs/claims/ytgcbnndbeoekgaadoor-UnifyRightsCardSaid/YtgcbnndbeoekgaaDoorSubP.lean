/- trees of a node's arguments, one by one, in plain Lean -/
import Derived.Test.YtgcbnndbeoekgaaDoorGoodP
set_option linter.unusedSimpArgs false
set_option linter.unusedVariables false
namespace Go.Proofs.YtgcbnndbeoekgaaDoor
open Go Go.RowKit

theorem Fo.app2_assoc (F G H : Fo) : F.app2 (G.app2 H) = (F.app2 G).app2 H := Fo.sub_app2.app2_assoc F G H
theorem Fo.cnt_app2 : ∀ F G : Fo, (F.app2 G).cnt = F.cnt + G.cnt
  | .nil, G => (Nat.zero_add _).symm
  | .hole _ r, G => by show 1 + (r.app2 G).cnt = 1 + r.cnt + G.cnt; rw [cnt_app2 r]; omega
  | .app _ _ r, G => by show 1 + (r.app2 G).cnt = 1 + r.cnt + G.cnt; rw [cnt_app2 r]; omega
theorem Fo.one_cnt {T : Fo} (h : T.one) : T.cnt = 1 := by
  rcases Fo.one_cases h with ⟨n, rfl⟩ | ⟨nm, K, rfl⟩ <;> rfl
theorem Fo.cnt_nil {F : Fo} (h : F.cnt = 0) : F = .nil := by
  cases F with
  | nil => rfl
  | hole n r => have : 1 + r.cnt = 0 := h; omega
  | app nm k r => have : 1 + r.cnt = 0 := h; omega
theorem Fo.nil_cnt {F : Fo} : F.isNil = true ↔ F.cnt = 0 := by
  constructor
  · intro h; cases F <;> first | rfl | cases h
  · intro h; rw [Fo.cnt_nil h]; rfl
theorem Fo.cnt_size (F : Fo) : F.cnt ≤ F.size := by
  induction F with
  | nil => exact Nat.le_refl _
  | hole n r ih => show 1 + r.cnt ≤ 1 + r.size; omega
  | app nm k r _ ih => show 1 + r.cnt ≤ 1 + k.size + r.size; omega
/-- a node's arguments, a part of them gone through -/
structure Part (l : List TN) (o : Nat) (K A R : Fo) (k : Nat) : Prop where
  eq : K = A.app2 R
  cnt : A.cnt = k
  wf : R.wf
  seg : Seg l (o + 1 + A.size) R
theorem Part.start {l : List TN} {o : Nat} {K : Fo} (hw : K.wf) (h : Seg l (o + 1) K) : Part l o K .nil K 0 := ⟨rfl, rfl, hw, h⟩
section
variable {l : List TN} {o k : Nat} {K A R : Fo}
theorem Part.le (h : Part l o K A R k) : k ≤ K.cnt := by rw [h.eq, Fo.cnt_app2, h.cnt]; omega
theorem Part.last (h : Part l o K A R k) (hk : ¬ k < K.cnt) : A = K := by
  have h1 := h.eq
  have h2 : R.cnt = 0 := by have := Fo.cnt_app2 A R; rw [← h1, h.cnt] at this; omega
  rw [Fo.cnt_nil h2, Fo.app2_nil] at h1
  exact h1.symm
/-- the next one -/
theorem Part.next (h : Part l o K A R k) (hk : k < K.cnt) : ∃ T r, T.one ∧ T.wf ∧ Seg l (o + 1 + A.size) T ∧ (∃ hk' : k < (K.offs (o + 1)).length, (K.offs (o + 1))[k] = ((o + 1 + A.size : Nat) : Int)) ∧ Part l o K (A.app2 T) r (k + 1) ∧ T.size + A.size ≤ K.size := by
  have hR : R.isNil = false := by
    cases e : R.isNil with
    | false => rfl
    | true =>
      have h1 := Fo.nil_cnt.1 e
      have := Fo.cnt_app2 A R
      rw [← h.eq, h.cnt] at this; omega
  obtain ⟨T, r, h1, rfl⟩ := Fo.split hR
  have hw := Fo.wf_app2_iff.1 h.wf
  obtain ⟨s1, s2⟩ := h.seg.app2
  have hk' : k < (K.offs (o + 1)).length := by rw [Fo.offs_len]; exact hk
  refine ⟨T, r, h1, hw.1, s1, ⟨hk', ?_⟩, ⟨by rw [h.eq, Fo.app2_assoc], by rw [Fo.cnt_app2, h.cnt, Fo.one_cnt h1], hw.2, by rw [Fo.size_app2, ← Nat.add_assoc]; exact s2⟩, ?_⟩
  · have e : K.offs (o + 1) = A.offs (o + 1) ++ ((o + 1 + A.size : Nat) : Int) :: r.offs (o + 1 + A.size + T.size) := by
      rw [h.eq, Fo.offs_app2, Fo.offs_app2, Fo.one_offs h1]; rfl
    have hl : (A.offs (o + 1)).length = k := by rw [Fo.offs_len, h.cnt]
    have : (K.offs (o + 1))[k]? = some ((o + 1 + A.size : Nat) : Int) := by rw [e, List.getElem?_append_right (by omega), hl]; simp
    rw [List.getElem?_eq_getElem hk'] at this
    exact Option.some.inj this
  · have := congrArg Fo.size h.eq
    rw [Fo.size_app2, Fo.size_app2] at this; omega
end
/-- what has been written of a node's arguments -/
def parT (A : Fo) : List UInt8 := if A.cnt = 0 then [] else 40 :: A.txt false
theorem parT_next {A T : Fo} (h : T.one) : parT (A.app2 T) = parT A ++ ((if A.cnt = 0 then [40] else [44]) ++ T.txt false) := by
  unfold parT
  rw [Fo.cnt_app2, Fo.one_cnt h, if_neg (by omega), Fo.txt_app2]
  by_cases h0 : A.cnt = 0
  · rw [if_pos h0, if_pos h0, Fo.cnt_nil h0]; rfl
  · have hn : A.isNil = false := by cases e : A.isNil with | false => rfl | true => exact absurd (Fo.nil_cnt.1 e) h0
    rw [if_neg h0, if_neg h0, hn]
    have : T.txt true = 44 :: T.txt false := Fo.txt_comma (Fo.one_nil h)
    simp [this]
theorem parT_end (nm : ByteArray) (K : Fo) : nm.data.toList ++ (parT K ++ (if K.cnt = 0 then [] else [41])) = (Fo.app nm K .nil).txt false := by
  show _ = [] ++ (nm.data.toList ++ par K.isNil (K.txt false) ++ [])
  unfold parT par
  by_cases h0 : K.cnt = 0
  · rw [if_pos h0, if_pos h0, if_pos (Fo.nil_cnt.2 h0)]; simp
  · rw [if_neg h0, if_neg h0, if_neg (fun e => h0 (Fo.nil_cnt.1 e))]; simp
theorem hole_txt (n : Nat) : (Fo.hole n .nil).txt false = 63 :: digs n := by simp [Fo.txt]
section
variable {σ : Nat → Option Fo}
end
end Go.Proofs.YtgcbnndbeoekgaaDoor
