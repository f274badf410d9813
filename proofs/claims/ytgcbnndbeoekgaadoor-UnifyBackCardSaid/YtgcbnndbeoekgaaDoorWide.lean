/- how many nodes some terms have: the law's terms, wide -/
import Derived.Test.YtgcbnndbeoekgaaDoorFindB
import Derived.Test.YtgcbnndbeoekgaaDoorRegY
set_option linter.unusedSimpArgs false
set_option linter.unusedVariables false
namespace Go.Proofs.YtgcbnndbeoekgaaDoor
open Go Go.RowKit

theorem tn_info15 : (Tryd.prog.info? 58).map (fun i => (i.zero, i.size, i.bytes)) = some (some (.agg #[.int .i64 0, .string ⟨#[]⟩, .slice none 0 0]), 3, 48) := by kernel_rfl
def LenV (n : Nat) (u : Value) : Prop := ∃ S c, u = .slice S n c
inductive Lens : List Nat → List Value → Prop where
  | nil : Lens [] []
  | cons {n u ns us} : LenV n u → Lens ns us → Lens (n :: ns) (u :: us)
theorem Lens.app {ns us ms vs} (h : Lens ns us) (k : Lens ms vs) : Lens (ns ++ ms) (us ++ vs) := by
  induction h with
  | nil => exact k
  | cons h1 _ ih => exact .cons h1 ih
theorem Lens.len {ns us} (h : Lens ns us) : us.length = ns.length := by
  induction h with
  | nil => rfl
  | cons _ _ ih => simp [ih]
theorem Lens.at_ {ns us} (h : Lens ns us) : ∀ i (hi : i < ns.length), ∃ S c, us[i]? = some (.slice S ns[i] c) := by
  induction h with
  | nil => intro i hi; simp at hi
  | cons h1 _ ih =>
    intro i hi
    cases i with
    | zero => obtain ⟨S, c, rfl⟩ := h1; exact ⟨S, c, rfl⟩
    | succ i => simpa using ih i (by simpa using hi)
theorem Lens.one {ns us} (h : Lens ns us) : ∀ u ∈ us, u.oneCell' = true := by
  induction h with
  | nil => intro u hu; cases hu
  | cons h1 _ ih =>
    intro u hu
    rcases List.mem_cons.1 hu with e | e
    · obtain ⟨S, c, rfl⟩ := h1; subst e; rfl
    · exact ih u e
/-- terms of the call's own, of which their lengths are known -/
def LenRow (w : World) (base : Nat) (v : Value) (ns : List Nat) : Prop := ∃ us, w.ownsRow base 24 1 v ns.length us ∧ Lens ns us
section
variable {w w' : World} {base : Nat} {v : Value} {ns : List Nat}
theorem LenRow.kept {row : Option Nat} (h : LenRow w base v ns) (hg : w.grownBy w' row) (hne : v.ownBlock = none ∨ v.ownBlock ≠ row) : LenRow w' base v ns := let ⟨us, h1, h2⟩ := h; ⟨us, h1.kept hg hne, h2⟩
theorem LenRow.below (h : LenRow w base v ns) (hb : Below w.heap.size w w') : LenRow w' base v ns :=
  h.kept (row := none) ⟨hb.os, hb.tape, hb.output, hb.size, fun k hk _ => hb.block k hk⟩ (by cases hv : v.ownBlock <;> simp)
theorem LenRow.shape (h : LenRow w base v ns) : ∃ A c, v = .slice A ns.length c := let ⟨_, h1, _⟩ := h; own_shape h1
theorem LenRow.lt (h : LenRow w base v ns) : ∀ g, v.ownBlock = some g → base ≤ g ∧ g < w.heap.size := let ⟨_, h1, _⟩ := h; h1.lt
theorem LenRow.made (w : World) {base : Nat} (hb : base ≤ w.heap.size) : LenRow (w.alloc (.cells #[] 24)) base (.slice (some ⟨w.heap.size, 0, none⟩) 0 0) [] :=
  ⟨[], World.ownsRow_made (base := base) (e := 24) (size := 1) w #[] 0 hb (Nat.zero_le _) (by simp), .nil⟩
theorem LenRow.cell {A : Option Addr} {n c : Nat} (h : LenRow w base (.slice A n c) ns) {i : Nat} (hi : i < ns.length) : ∃ g S k, A = some ⟨g, 0, none⟩ ∧ base ≤ g ∧ g < w.heap.size ∧ w.cell? ⟨g, i, none⟩ = some (.slice S ns[i] k) := by
  obtain ⟨us, h1, h2⟩ := h
  obtain ⟨S, k, hu⟩ := h2.at_ i hi
  have hlt := h1.lt
  have hcells := fun g => h1.cells (g := g)
  rcases h1.2 with ⟨_, hn⟩ | ⟨g, cap, cur, e, _⟩
  · omega
  · injection e with e _ _
    subst e
    refine ⟨g, S, k, rfl, (hlt g rfl).1, (hlt g rfl).2, ?_⟩
    have := hcells g rfl i _ hu
    rw [add_some, Nat.zero_add] at this
    exact this
end
end Go.Proofs.YtgcbnndbeoekgaaDoor
