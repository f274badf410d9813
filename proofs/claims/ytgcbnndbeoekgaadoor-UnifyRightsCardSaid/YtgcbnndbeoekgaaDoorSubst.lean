/- what stands for holes is put in their places, in plain Lean -/
import Derived.Test.YtgcbnndbeoekgaaDoorGood
set_option linter.unusedSimpArgs false
set_option linter.unusedVariables false
namespace Go.Proofs.YtgcbnndbeoekgaaDoor
open Go Go.RowKit

def Fo.app2 : Fo → Fo → Fo
  | .nil, G => G
  | .hole n r, G => .hole n (r.app2 G)
  | .app nm k r, G => .app nm k (r.app2 G)
theorem Fo.size_app2 : ∀ F G : Fo, (F.app2 G).size = F.size + G.size
  | .nil, G => (Nat.zero_add _).symm
  | .hole _ r, G => by show 1 + (r.app2 G).size = 1 + r.size + G.size; rw [size_app2 r]; omega
  | .app _ k r, G => by show 1 + k.size + (r.app2 G).size = 1 + k.size + r.size + G.size; rw [size_app2 r]; omega
theorem Fo.flat_app2 : ∀ (F G : Fo) (o : Nat), (F.app2 G).flat o = F.flat o ++ G.flat (o + F.size)
  | .nil, G, o => rfl
  | .hole n r, G, o => by
    show _ :: (r.app2 G).flat (o + 1) = _ :: (r.flat (o + 1) ++ G.flat (o + (1 + r.size)))
    rw [flat_app2 r, Nat.add_assoc]
  | .app nm k r, G, o => by
    show _ :: (k.flat (o + 1) ++ (r.app2 G).flat (o + 1 + k.size)) = _ :: (k.flat (o + 1) ++ r.flat (o + 1 + k.size) ++ G.flat (o + (1 + k.size + r.size)))
    rw [flat_app2 r, List.append_assoc, show o + 1 + k.size + r.size = o + (1 + k.size + r.size) by omega]
theorem Fo.offs_app2 : ∀ (F G : Fo) (o : Nat), (F.app2 G).offs o = F.offs o ++ G.offs (o + F.size)
  | .nil, G, o => rfl
  | .hole n r, G, o => by
    show _ :: (r.app2 G).offs (o + 1) = _ :: (r.offs (o + 1) ++ G.offs (o + (1 + r.size)))
    rw [offs_app2 r, Nat.add_assoc]
  | .app nm k r, G, o => by
    show _ :: (r.app2 G).offs (o + 1 + k.size) = _ :: (r.offs (o + 1 + k.size) ++ G.offs (o + (1 + k.size + r.size)))
    rw [offs_app2 r, show o + 1 + k.size + r.size = o + (1 + k.size + r.size) by omega]
theorem Fo.txt_app2 : ∀ (F G : Fo) (b : Bool), (F.app2 G).txt b = F.txt b ++ G.txt (b || !F.isNil)
  | .nil, G, b => by simp [Fo.app2, Fo.txt, Fo.isNil]
  | .hole n r, G, b => by
    show _ ++ (63 :: digs n ++ (r.app2 G).txt true) = (_ ++ (63 :: digs n ++ r.txt true)) ++ G.txt (b || !false)
    rw [txt_app2 r]; simp
  | .app nm k r, G, b => by
    show _ ++ (nm.data.toList ++ par k.isNil (k.txt false) ++ (r.app2 G).txt true) = (_ ++ (nm.data.toList ++ par k.isNil (k.txt false) ++ r.txt true)) ++ G.txt (b || !false)
    rw [txt_app2 r]; simp
theorem Fo.app2_nil : ∀ F : Fo, F.app2 .nil = F
  | .nil => rfl
  | .hole n r => congrArg (Fo.hole n) (app2_nil r)
  | .app nm k r => congrArg (Fo.app nm k) (app2_nil r)
theorem Fo.one_nil {F : Fo} (h : F.one) : F.isNil = false := by cases F <;> first | exact h.elim | rfl
theorem Fo.one_size {F : Fo} (h : F.one) : 1 ≤ F.size := by
  cases F with
  | nil => exact h.elim
  | hole _ _ => show 1 ≤ 1 + _; omega
  | app _ _ _ => show 1 ≤ 1 + _ + _; omega
/-- a hole, or what stands for it -/
def stood (σ : Nat → Option Fo) (n : Nat) : Fo := match σ n with | some T => T | none => .hole n .nil
def Fo.sub (σ : Nat → Option Fo) : Fo → Fo
  | .nil => .nil
  | .hole n r => (stood σ n).app2 (r.sub σ)
  | .app nm k r => .app nm (k.sub σ) (r.sub σ)
section
variable {σ : Nat → Option Fo}
end
/-! ### Bounds -/
structure ABind where
  hole : Int
  term : List TN
end Go.Proofs.YtgcbnndbeoekgaaDoor
