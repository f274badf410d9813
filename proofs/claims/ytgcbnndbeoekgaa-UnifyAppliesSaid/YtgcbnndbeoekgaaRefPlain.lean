import Derived.Test.YtgcbnndbeoekgaaTerm
import Derived.Test.YtgcbnndbeoekgaaPair
set_option linter.unusedSimpArgs false
set_option linter.unusedVariables false
namespace Go.Proofs.Ytgcbnndbeoekgaa
open Go Go.RowKit

/-! ### the reference's reader, told by the machine -/
def withArg (l : List TN) (op : List Nat) : List TN := match op.getLast? with | none => l | some k => addArg l k l.length
theorem withArg_nil (l : List TN) : withArg l [] = l := rfl
theorem withArg_snoc (l : List TN) (op : List Nat) (k : Nat) : withArg l (op ++ [k]) = addArg l k l.length := by unfold withArg; rw [List.getLast?_concat]
/-- a term is due, and its place among its parent's arguments is not yet kept -/
structure RefI (s : ByteArray) (i : Nat) (l : List TN) (op : List Nat) : Prop where
  le : i ≤ s.size
  len : l.length ≤ 256
  olen : op.length ≤ l.length
  lt : ∀ k ∈ op, k < l.length
  args : ∀ k (h : k < l.length), l[k].args.length ≤ l.length
  reach : Reach s (.due 0 [] []) (.due i (withArg l op) op)
/-- a term is due -/
structure RefD (s : ByteArray) (i : Nat) (l : List TN) (op : List Nat) : Prop where
  le : i ≤ s.size
  len : l.length < 256
  olen : op.length ≤ l.length
  lt : ∀ k ∈ op, k < l.length
  args : ∀ k (h : k < l.length), l[k].args.length ≤ l.length + 1
  reach : Reach s (.due 0 [] []) (.due i l op)
/-- a term has been read -/
structure RefA (s : ByteArray) (i : Nat) (l : List TN) (op : List Nat) : Prop where
  le : i ≤ s.size
  len : l.length ≤ 256
  olen : op.length < l.length
  lt : ∀ k ∈ op, k < l.length
  args : ∀ k (h : k < l.length), l[k].args.length ≤ l.length
  reach : Reach s (.due 0 [] []) (.after i l op)
section
variable {s : ByteArray} {i j : Nat} {l : List TN} {op : List Nat} {k : Nat}
theorem RefI.start (s : ByteArray) : RefI s 0 [] [] := ⟨Nat.zero_le _, by simp, by simp, by simp, by simp, Reach.refl _ _⟩
theorem RefI.bad (h : RefI s i l op) (hb : byteAt s i = none ∨ ∃ hlt : i < s.size, ((s[i].toNat : Int) == 63) = false ∧ letterB s[i] = false) : Says s i 2 [] := by
  refine .inr ⟨by decide, rfl, i, rfl, h.reach.next ?_⟩
  rcases hb with hb | ⟨hlt, h1, h2⟩
  · exact step_due_none hb
  · exact step_due_bad (byteAt_lt hlt) (byte_isnt' h1) h2
theorem withArg_length (l : List TN) (op : List Nat) : (withArg l op).length = l.length := by
  unfold withArg; split <;> simp
theorem RefI.long (h : RefI s i l op) (hlt : i < s.size) (hc : ((s[i].toNat : Int) == 63) = true ∨ (((s[i].toNat : Int) == 63) = false ∧ letterB s[i] = true)) (hl : l.length = 256) : Says s i 3 [] := by
  refine .inr ⟨by decide, rfl, i, rfl, h.reach.next ?_⟩
  exact step_due_long (byteAt_lt hlt) (hc.imp (byte_is (n := 63)) (·.2)) (by rw [withArg_length]; exact hl)
theorem RefI.first (h : RefI s i l []) (hl : l.length ≠ 256) : RefD s i l [] := ⟨h.le, by have := h.len; omega, by simp, by simp, fun k hk => by have := h.args k hk; omega, h.reach⟩
theorem RefI.more (h : RefI s i l (op ++ [k])) (hl : l.length ≠ 256) : RefD s i (addArg l k l.length) (op ++ [k]) := by
  have hk : k < l.length := h.lt k (by simp)
  refine ⟨h.le, by have := h.len; simp; omega, by simpa using h.olen, by simpa using h.lt, fun m hm => ?_, by have := h.reach; rwa [withArg_snoc] at this⟩
  have hm' : m < l.length := by simpa using hm
  have := h.args m hm'
  simp only [addArg_at hk]
  by_cases e : k = m
  · subst e; simp; omega
  · simp only [List.getElem_set_ne e]; simp; omega
theorem RefD.nohole (h : RefD s i l op) (hlt : i < s.size) (h63 : ((s[i].toNat : Int) == 63) = true) (he : holeEnd s i = i + 1) : Says s (i + 1 : Nat) 2 [] :=
  .inr ⟨by decide, rfl, i + 1, rfl, h.reach.next (step_due_nohole (byte63 hlt h63) (by have := h.len; omega) he)⟩
theorem args_snoc {l : List TN} {t : TN} (ht : t.args = []) (h : ∀ k (h : k < l.length), l[k].args.length ≤ l.length + 1) : ∀ k (h : k < (l ++ [t]).length), (l ++ [t])[k].args.length ≤ (l ++ [t]).length := by
  intro m hm
  by_cases e : m < l.length
  · simp only [List.getElem_append_left e]; have := h m e; simp; omega
  · have e2 : m = l.length := by simp at hm; omega
    subst e2; simp [ht]
theorem RefD.hole (h : RefD s i l op) (hlt : i < s.size) (h63 : ((s[i].toNat : Int) == 63) = true) (he : holeEnd s i = j) (hj : i + 1 < j) (hj2 : j ≤ s.size) : RefA s j (l ++ [⟨numB (cut s (i + 1) j), ByteArray.empty, []⟩]) op := by
  subst he
  refine ⟨hj2, by have := h.len; simp; omega, by have := h.olen; simp; omega, fun k hk => by have := h.lt k hk; simp; omega, args_snoc rfl h.args, h.reach.next ?_⟩
  exact step_due_hole (byte63 hlt h63) (by have := h.len; omega) (by omega)
theorem RefD.name (h : RefD s i l op) (hlt : i < s.size) (h63 : ((s[i].toNat : Int) == 63) = false) (hl : letterB s[i] = true) (he : nameEnd s i = j) (hj2 : j ≤ s.size) (h40 : byteAt s j ≠ some 40) : RefA s j (l ++ [⟨0, s.extract i j, []⟩]) op := by
  subst he
  refine ⟨hj2, by have := h.len; simp; omega, by have := h.olen; simp; omega, fun k hk => by have := h.lt k hk; simp; omega, args_snoc rfl h.args, h.reach.next ?_⟩
  exact step_due_name (byteAt_lt hlt) (byte_isnt' h63) hl (by have := h.len; omega) h40
theorem at_lt {n : UInt8} (h : byteAt s j = some n) : j < s.size := by
  unfold byteAt at h; split at h
  · assumption
  · cases h
theorem RefD.open_ (h : RefD s i l op) (hlt : i < s.size) (h63 : ((s[i].toNat : Int) == 63) = false) (hl : letterB s[i] = true) (he : nameEnd s i = j) (h40 : byteAt s j = some 40) : RefI s (j + 1) (l ++ [⟨0, s.extract i j, []⟩]) (op ++ [l.length]) := by
  subst he
  refine ⟨at_lt h40, by have := h.len; simp; omega, by have := h.olen; simp; omega, fun k hk => ?_, args_snoc rfl h.args, h.reach.next ?_⟩
  · rcases List.mem_append.1 hk with hk | hk
    · have := h.lt k hk; simp; omega
    · simp at hk; subst hk; simp
  · rw [withArg_snoc, step_due_open (byteAt_lt hlt) (byte_isnt' h63) hl (by have := h.len; omega) h40]; simp
theorem RefA.close (h : RefA s i l (op ++ [k])) (h41 : byteAt s i = some 41) : RefA s (i + 1) l op := by
  refine ⟨at_lt h41, h.len, by have := h.olen; simp at this; omega, fun m hm => h.lt m (by simp [hm]), h.args, h.reach.next ?_⟩
  rw [step_after, if_pos h41]
theorem RefA.done (h : RefA s i l []) (hi : i = s.size) : Says s 0 0 l := .inl ⟨rfl, rfl, h.reach.next (step_done hi)⟩
theorem RefA.rest (h : RefA s i l []) (hi : i ≠ s.size) : Says s i 2 [] := .inr ⟨by decide, rfl, i, rfl, h.reach.next (step_rest hi)⟩
theorem RefA.bad (h : RefA s i l (op ++ [k])) (h41 : byteAt s i ≠ some 41) (h44 : byteAt s i ≠ some 44) : Says s i 2 [] := by
  refine .inr ⟨by decide, rfl, i, rfl, h.reach.next ?_⟩
  rw [step_after, if_neg h41, if_neg h44]
theorem RefA.next (h : RefA s i l (op ++ [k])) (h41 : byteAt s i ≠ some 41) (h44 : byteAt s i = some 44) : RefI s (i + 1) l (op ++ [k]) := by
  refine ⟨at_lt h44, h.len, Nat.le_of_lt h.olen, h.lt, h.args, h.reach.next ?_⟩
  rw [step_after, if_neg h41, if_pos h44, withArg_snoc]
end
end Go.Proofs.Ytgcbnndbeoekgaa
