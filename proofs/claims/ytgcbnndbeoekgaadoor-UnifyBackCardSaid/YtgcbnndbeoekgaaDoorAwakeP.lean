import Derived.Test.YtgcbnndbeoekgaaDoorSolveQ
set_option linter.unusedSimpArgs false
set_option linter.unusedVariables false
/- what the awake terms say: in plain Lean -/
namespace Go.Proofs.YtgcbnndbeoekgaaDoor
open Go Go.RowKit

theorem treeOf_flat {T : Fo} (h1 : T.one) (hw : T.wf) (hs : T.size ≤ 256) : treeOf (T.flat 0) = T := by
  obtain ⟨a, b, c, _⟩ := treeOf_ok (right_tree h1 hw hs)
  exact flat_inj a h1 b hw c.symm
/-- pairs of trees -/
def flats (L : List (Fo × Fo)) : List (List TN × List TN) := L.map fun p => (p.1.flat 0, p.2.flat 0)
def OkT (T : Fo) : Prop := T.one ∧ T.wf ∧ T.size ≤ 256
theorem eqsP_flats {L : List (Fo × Fo)} (h : ∀ p ∈ L, OkT p.1 ∧ OkT p.2) (k : Nat) : eqsP (flats L) k = L.take k := by
  unfold eqsP flats
  rw [← List.map_take, List.map_map]
  have : ∀ p ∈ L.take k, ((fun p => (treeOf p.1, treeOf p.2)) ∘ fun p : Fo × Fo => (p.1.flat 0, p.2.flat 0)) p = p := fun p hp => by
    obtain ⟨⟨a1, a2, a3⟩, b1, b2, b3⟩ := h p (List.mem_of_mem_take hp)
    show (treeOf (p.1.flat 0), treeOf (p.2.flat 0)) = p
    rw [treeOf_flat a1 a2 a3, treeOf_flat b1 b2 b3]
  rw [List.map_congr_left this, List.map_id']
theorem flats_right {L : List (Fo × Fo)} (h : ∀ p ∈ L, OkT p.1 ∧ OkT p.2) (i : Nat) (hi : i < (flats L).length) : rightI (flats L)[i].1 = 0 ∧ rightI (flats L)[i].2 = 0 := by
  have hi' : i < L.length := by unfold flats at hi; simpa using hi
  have e : (flats L)[i] = (L[i].1.flat 0, L[i].2.flat 0) := List.getElem_map _
  obtain ⟨⟨a1, a2, a3⟩, b1, b2, b3⟩ := h _ (List.getElem_mem hi')
  rw [e]
  exact ⟨right_tree a1 a2 a3, right_tree b1 b2 b3⟩
theorem solved_flats {L : List (Fo × Fo)} (h : ∀ p ∈ L, OkT p.1 ∧ OkT p.2) {k : Nat} {bs : List (Nat × Fo)} (ha : ∀ i, i ≤ k → ∃ b, Comes (L.take i) (.ok b)) (hb : Comes (L.take k) (.ok bs)) : SolvedTo (flats L) k (bs.map bindOf) :=
  ⟨fun i hi _ => flats_right h i hi, fun i hi => by rw [eqsP_flats h]; exact ha i hi, bs, by rw [eqsP_flats h]; exact hb, rfl⟩
theorem says_ok {L : List (Fo × Fo)} (h : ∀ p ∈ L, OkT p.1 ∧ OkT p.2) (hl : L.length ≤ 4096) {bs : List (Nat × Fo)} (ha : ∀ i, i ≤ L.length → ∃ b, Comes (L.take i) (.ok b)) (hb : Comes L (.ok bs)) : SolveSays (flats L) 0 0 (bs.map bindOf) := by
  have e : (flats L).length = L.length := by unfold flats; simp
  refine .inr (.inl ⟨by rw [e]; exact hl, ?_, rfl, rfl⟩)
  rw [e]
  exact solved_flats h ha (by rw [List.take_length]; exact hb)
theorem says_no {L : List (Fo × Fo)} (h : ∀ p ∈ L, OkT p.1 ∧ OkT p.2) (hl : L.length ≤ 4096) {k : Nat} (hk : k < L.length) {o : Outc} {err : Int} (ha : ∀ i, i ≤ k → ∃ b, Comes (L.take i) (.ok b)) (hc : Comes (L.take (k + 1)) o) (ho : ∀ bs, o ≠ .ok bs) (he : OutIs o err []) : SolveSays (flats L) err k [] := by
  have e : (flats L).length = L.length := by unfold flats; simp
  obtain ⟨b, hb⟩ := ha k (Nat.le_refl _)
  have hr := flats_right h k (by rw [e]; exact hk)
  exact .inr (.inr ⟨by rw [e]; exact hl, k, _, solved_flats h ha hb, ⟨by rw [e]; exact hk, .inr (.inr ⟨hr.1, hr.2, o, by rw [eqsP_flats h]; exact hc, ho, he⟩)⟩, rfl, rfl⟩)
theorem comes_nil : Comes [] (.ok []) := ⟨⟨List.Pairwise.nil, (fun p hp => by cases hp), (fun p hp => by cases hp), (fun p hp => by cases hp), (fun p hp => by cases hp)⟩, fun θ => ⟨fun _ p hp => (by cases hp), fun _ p hp => (by cases hp)⟩, fun p hp => by cases hp⟩

def bA : ByteArray := ⟨#[97]⟩
def bB : ByteArray := ⟨#[98]⟩
def bF : ByteArray := ⟨#[102]⟩
def bG : ByteArray := ⟨#[103]⟩
def tA : Fo := .app bA .nil .nil
def tB : Fo := .app bB .nil .nil
def tH (n : Nat) : Fo := .hole n .nil
def tF12 : Fo := .app bF (.hole 1 (.hole 2 .nil)) .nil
def tF2a : Fo := .app bF (.hole 2 (.app bA .nil .nil)) .nil
def tF1 : Fo := .app bF (.hole 1 .nil) .nil
def tG23 : Fo := .app bG (.hole 2 (.hole 3 .nil)) .nil
theorem right_bA : rightB bA.data.toList = true := by decide +kernel
theorem right_bB : rightB bB.data.toList = true := by decide +kernel
theorem right_bF : rightB bF.data.toList = true := by decide +kernel
theorem right_bG : rightB bG.data.toList = true := by decide +kernel
theorem ok_tA : OkT tA := ⟨rfl, ⟨right_bA, trivial, trivial⟩, by decide⟩
theorem ok_tB : OkT tB := ⟨rfl, ⟨right_bB, trivial, trivial⟩, by decide⟩
theorem ok_tH1 : OkT (tH 1) := ⟨rfl, ⟨by decide, by decide, trivial⟩, by decide⟩
theorem ok_tF12 : OkT tF12 := ⟨rfl, ⟨right_bF, ⟨by decide, by decide, by decide, by decide, trivial⟩, trivial⟩, by decide⟩
theorem ok_tF2a : OkT tF2a := ⟨rfl, ⟨right_bF, ⟨by decide, by decide, right_bA, trivial, trivial⟩, trivial⟩, by decide⟩
theorem ok_tF1 : OkT tF1 := ⟨rfl, ⟨right_bF, ⟨by decide, by decide, trivial⟩, trivial⟩, by decide⟩
theorem ok_tG23 : OkT tG23 := ⟨rfl, ⟨right_bG, ⟨by decide, by decide, by decide, by decide, trivial⟩, trivial⟩, by decide⟩
theorem comes_one : Comes [(tF12, tF2a)] (.ok [(1, tA), (2, tA)]) := by
  refine ⟨⟨?_, ?_, ?_, ?_, ?_⟩, fun θ => ⟨fun h => ?_, fun h => ?_⟩, ?_⟩
  · simp
  · intro p hp; simp at hp; rcases hp with rfl | rfl <;> decide
  · intro p hp; simp at hp; rcases hp with rfl | rfl <;> rfl
  · intro p hp q hq; simp at hp; rcases hp with rfl | rfl <;> exact fun h => h.elim id id
  · intro p hp m hm; simp at hp; rcases hp with rfl | rfl <;> cases hm
  · have h0 : ev θ tF12 = ev θ tF2a := h _ (List.mem_cons_self ..)
    have e1 : θ 1 = θ 2 := funext fun q => congrFun h0 (0 :: q)
    have e2 : θ 2 = ev θ tA := funext fun q => congrFun h0 (1 :: q)
    intro p hp
    simp at hp
    rcases hp with rfl | rfl
    · exact e1.trans e2
    · exact e2
  · have e1 : θ 1 = ev θ tA := h (1, tA) (by simp)
    have e2 : θ 2 = ev θ tA := h (2, tA) (by simp)
    intro p hp
    simp at hp
    subst hp
    funext q
    match q with
    | [] => rfl
    | 0 :: q => show θ 1 q = θ 2 q; rw [e1, e2]
    | 1 :: q => show θ 2 q = ev θ tA q; rw [e2]
    | (j + 2) :: q => rfl
  · intro p hp; simp at hp; rcases hp with rfl | rfl <;> decide
theorem comes_1a : Comes [(tH 1, tA)] (.ok [(1, tA)]) := by
  refine ⟨⟨?_, ?_, ?_, ?_, ?_⟩, fun θ => ⟨fun h => ?_, fun h => ?_⟩, ?_⟩
  · simp
  · intro p hp; simp at hp; subst hp; decide
  · intro p hp; simp at hp; subst hp; rfl
  · intro p hp q hq; simp at hp; subst hp; exact fun h => h.elim id id
  · intro p hp m hm; simp at hp; subst hp; cases hm
  · intro p hp; simp at hp; subst hp; exact h _ (List.mem_cons_self ..)
  · intro p hp; simp at hp; subst hp; exact h (1, tA) (by simp)
  · intro p hp; simp at hp; subst hp; decide
theorem comes_two : Comes [(tH 1, tA), (tH 1, tB)] .clash := fun θ h => by
  have h1 : θ 1 = ev θ tA := h (tH 1, tA) (by simp)
  have h2 : θ 1 = ev θ tB := h (tH 1, tB) (by simp)
  have h3 := congrFun (h1.symm.trans h2) []
  have h3 : some (Lab.fn bA 0) = some (Lab.fn bB 0) := h3
  injection h3 with h3
  injection h3 with h3
  exact absurd (congrArg (fun b : ByteArray => b.data.toList) h3) (by decide +kernel)
/-- f(f(f(..))) -/
def loopT : IT := fun p => if p.all (· == 0) = true then some (.fn bF 1) else none
theorem comes_three : Comes [(tH 1, tF1)] .occurs := by
  refine ⟨⟨fun _ => loopT, fun p hp => ?_⟩, fun θ hf h => ?_⟩
  · simp at hp
    subst hp
    show loopT = ev (fun _ => loopT) tF1
    funext q
    match q with
    | [] => rfl
    | 0 :: q => show loopT (0 :: q) = loopT q; unfold loopT; simp
    | (j + 1) :: q => show loopT ((j + 1) :: q) = none; unfold loopT; simp
  · have h1 : θ 1 = ev θ tF1 := h (tH 1, tF1) (by simp)
    have key : ∀ n, θ 1 (List.replicate n 0) = some (.fn bF 1) := fun n => by
      induction n with
      | zero => rw [h1]; rfl
      | succ n ih =>
        rw [h1]
        exact ih
    obtain ⟨d, hd⟩ := hf 1
    have h2 := hd (List.replicate d 0) (by simp)
    rw [key] at h2
    cases h2
end Go.Proofs.YtgcbnndbeoekgaaDoor
