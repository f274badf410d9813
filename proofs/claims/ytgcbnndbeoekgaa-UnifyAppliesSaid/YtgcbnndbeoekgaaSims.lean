import Derived.Test.YtgcbnndbeoekgaaNums
set_option linter.unusedSimpArgs false
set_option linter.unusedVariables false
namespace Go.Proofs.Ytgcbnndbeoekgaa
open Go Go.RowKit

theorem byte63 {s : ByteArray} {i : Nat} (h : i < s.size) (h63 : ((s[i].toNat : Int) == 63) = true) : byteAt s i = some 63 := by
  rw [byteAt_lt h]; congr 1
  rw [beq_iff_eq] at h63
  have : s[i].toNat = 63 := by omega
  exact UInt8.toNat.inj this
theorem after_fail {s : ByteArray} {j : Nat} {l : List TN} (h : byteAt s j ≠ some 41) (h2 : byteAt s j ≠ some 44) (h3 : j ≠ s.size) (op : List Nat) : step s (.after j l op) = .fail j 2 := by
  rcases List.eq_nil_or_concat op with rfl | ⟨r, k, e⟩
  · exact step_rest h3
  · rw [List.concat_eq_append] at e; subst e; rw [step_after, if_neg h, if_neg h2]
theorem fig_byte {s : ByteArray} {j : Nat} (hj : j < s.size) (hf : figureB s[j] = true) : byteAt s j ≠ some 41 ∧ byteAt s j ≠ some 44 := by
  have hr := figure_range hf
  rw [byteAt_lt hj]
  constructor
  · intro e; injection e with e; rw [e] at hr; exact absurd hr.1 (by decide)
  · intro e; injection e with e; rw [e] at hr; exact absurd hr.1 (by decide)
theorem DigR.first {s : ByteArray} {i j : Nat} (h : DigR s i j 0) : j = i + 1 := by
  rcases h.2.2.1 with ⟨h, _⟩ | ⟨_, hI, _⟩
  · exact h
  · have := hI.len
    have h1 : 1 ≤ 0 := Nat.le_trans (Nat.one_le_pow _ _ (by omega)) this
    omega
theorem DigR.later {s : ByteArray} {i j m : Nat} (h : DigR s i j m) (hm : 0 < m) : i + 1 < j ∧ numB (cut s (i + 1) j) = m := by
  rcases h.2.2.1 with ⟨_, h⟩ | ⟨h1, hI, h2⟩
  · omega
  · exact ⟨h1, numB_of hI h2⟩
theorem sim_nohole {s : ByteArray} {i j : Nat} {ts l' : List TN} (hlt : i < s.size) (h63 : ((s[i].toNat : Int) == 63) = true) (hlen : ts.length < 256) (hD : DigR s i j 0) (hp : holeP s i j = false) : Sim s i ts 2 j l' := by
  have e := hD.first
  have he := hD.stop hp
  refine .inr ⟨by decide, hD.2.1, fun op => .one ?_⟩
  rw [step_due_nohole (byte63 hlt h63) (by omega) (by omega), e]
theorem sim_bighole {s : ByteArray} {i j m : Nat} {ts l' : List TN} (hlt : i < s.size) (h63 : ((s[i].toNat : Int) == 63) = true) (hlen : ts.length < 256) (hD : DigR s i j m) (hj : j < s.size) (hf : figureB s[j] = true) (hm : 2147483647 < 10 * m + (s[j].toNat - 48)) : Sim s i ts 2 j l' := by
  have hr := figure_range hf
  have hl := hD.later (by omega)
  have he := hD.stop (hD.big hj hf hm)
  have hb := fig_byte hj hf
  refine .inr ⟨by decide, hD.2.1, fun op => (Reach.one (step_due_hole (byte63 hlt h63) (by omega) (by omega))).next ?_⟩
  rw [he]
  exact after_fail hb.1 hb.2 (by omega) op
theorem sim_hole {s : ByteArray} {i j m : Nat} {ts : List TN} (hlt : i < s.size) (h63 : ((s[i].toNat : Int) == 63) = true) (hlen : ts.length < 256) (hD : DigR s i j m) (hp : holeP s i j = false) (hm : 0 < m) : Sim s i ts 0 j (ts ++ [⟨(m : Int), ByteArray.empty, []⟩]) := by
  have hl := hD.later hm
  have he := hD.stop hp
  refine .inl ⟨rfl, by omega, hD.2.1, ⟨_, rfl, by simp⟩, by simp; omega, fun op => .one ?_⟩
  rw [step_due_hole (byte63 hlt h63) (by omega) (by omega), he, hl.2]
theorem set_last {ts : List TN} {a b : TN} {k : Nat} (hk : k = ts.length) : (ts ++ [a]).set k b = ts ++ [b] := by
  subst hk; rw [List.set_append_right _ _ (Nat.le_refl _)]; simp

theorem byte_isnt' {c : UInt8} (h : ((c.toNat : Int) == 63) = false) : c ≠ 63 := by
  rintro rfl
  exact absurd h (by decide)

/-! ### names, and the arguments -/
theorem addArg_mid (ts : List TN) (t : TN) (r : List TN) (x : Nat) : addArg (ts ++ t :: r) ts.length x = ts ++ { t with args := t.args ++ [(x : Int)] } :: r := by
  have h : ts.length < (ts ++ t :: r).length := by simp
  rw [addArg_at h]
  simp
theorem byte_some {s : ByteArray} {i n : Nat} (hn : n < 256) (h : ∃ h : i < s.size, (s[i].toNat : Int) = n) : byteAt s i = some (UInt8.ofNat n) := by
  obtain ⟨h1, h2⟩ := h
  rw [byteAt_lt h1]; congr 1
  have : s[i].toNat = n := by omega
  rw [← this]; simp
theorem byte_none {s : ByteArray} {i n : Nat} (hn : n < 256) (h : ∀ h : i < s.size, (s[i].toNat : Int) ≠ n) : byteAt s i ≠ some (UInt8.ofNat n) := by
  by_cases h1 : i < s.size
  · rw [byteAt_lt h1]
    intro e; injection e with e
    refine h h1 ?_
    rw [e]; simp [Nat.mod_eq_of_lt hn]
  · rw [byteAt_ge h1]; exact fun e => by cases e
theorem name_end {s : ByteArray} {i j : Nat} (hij : i ≤ j) (hj : j ≤ s.size) (h : ∀ k, i ≤ k → k < j → nameP s i k = true) (hs : nameP s i j = false) : nameEnd s i = j := ends_at _ _ _ hij (by omega) h hs
/-- the loop over a name's arguments: it stands ahead of one -/
def ArgR (s : ByteArray) (i : Nat) (ts : List TN) (j : Nat) (t : TN) (r : List TN) : Prop :=
  i < j ∧ j ≤ s.size ∧ (ts ++ t :: r).length ≤ 256 ∧ t.args.length ≤ r.length ∧ ∀ op, Reach s (.due i ts op) (.due j (addArg (ts ++ t :: r) ts.length (ts ++ t :: r).length) (op ++ [ts.length]))
section
variable {s : ByteArray} {i j j' : Nat} {ts r : List TN} {t : TN}
theorem sim_name (hlt : i < s.size) (h63 : ((s[i].toNat : Int) == 63) = false) (hl : letterB s[i] = true) (hlen : ts.length < 256) (he : nameEnd s i = j) (hij : i < j) (hj : j ≤ s.size) (h40 : byteAt s j ≠ some 40) : Sim s i ts 0 j (ts ++ [⟨0, s.extract i j, []⟩]) := by
  subst he
  refine .inl ⟨rfl, hij, hj, ⟨_, rfl, by simp⟩, by simp; omega, fun op => .one ?_⟩
  rw [step_due_name (byteAt_lt hlt) (byte_isnt' h63) hl (by omega) h40]
theorem arg_start (hlt : i < s.size) (h63 : ((s[i].toNat : Int) == 63) = false) (hl : letterB s[i] = true) (hlen : ts.length < 256) (he : nameEnd s i = j) (hij : i < j) (h40 : byteAt s j = some 40) : ArgR s i ts (j + 1) ⟨0, s.extract i j, []⟩ [] := by
  subst he
  have hj : nameEnd s i < s.size := by
    unfold byteAt at h40; split at h40
    · assumption
    · cases h40
  refine ⟨by omega, hj, by simp; omega, by simp, fun op => .one ?_⟩
  rw [step_due_open (byteAt_lt hlt) (byte_isnt' h63) hl (by omega) h40]
  simp
theorem arg_err {err : Int} {l' : List TN} (h : ArgR s i ts j t r) (he : err ≠ 0) (hs : Sim s j (addArg (ts ++ t :: r) ts.length (ts ++ t :: r).length) err j' l') : Sim s i ts err j' l' := by
  rcases hs with ⟨e, _⟩ | ⟨_, h1, h2⟩
  · exact absurd e he
  · exact .inr ⟨he, h1, fun op => (h.2.2.2.2 op).trans (h2 _)⟩
theorem arg_close {l' : List TN} (h : ArgR s i ts j t r) (hs : Sim s j (addArg (ts ++ t :: r) ts.length (ts ++ t :: r).length) 0 j' l') (h41 : byteAt s j' = some 41) : Sim s i ts 0 (j' + 1) l' := by
  rcases hs with ⟨_, h1, h2, ⟨r', h3, h3'⟩, h4, h5⟩ | ⟨e, _⟩
  · have hj : j' < s.size := by
      unfold byteAt at h41; split at h41
      · assumption
      · cases h41
    rw [addArg_mid] at h3
    refine .inl ⟨rfl, by have := h.1; omega, hj, ⟨_, by rw [h3, List.append_assoc], by simp⟩, h4, fun op => ((h.2.2.2.2 op).trans (h5 _)).next ?_⟩
    rw [step_after, if_pos h41]
  · exact absurd rfl e
theorem arg_bad {l' : List TN} (h : ArgR s i ts j t r) (hs : Sim s j (addArg (ts ++ t :: r) ts.length (ts ++ t :: r).length) 0 j' l') (h41 : byteAt s j' ≠ some 41) (h44 : byteAt s j' ≠ some 44) : Sim s i ts 2 j' l' := by
  rcases hs with ⟨_, h1, h2, ⟨r', h3, h3'⟩, h4, h5⟩ | ⟨e, _⟩
  · refine .inr ⟨by decide, h2, fun op => ((h.2.2.2.2 op).trans (h5 _)).next ?_⟩
    rw [step_after, if_neg h41, if_neg h44]
  · exact absurd rfl e
theorem arg_next {l' : List TN} (h : ArgR s i ts j t r) (hs : Sim s j (addArg (ts ++ t :: r) ts.length (ts ++ t :: r).length) 0 j' l') (h41 : byteAt s j' ≠ some 41) (h44 : byteAt s j' = some 44) :
    ∃ t' r', l' = ts ++ t' :: r' ∧ j < j' + 1 ∧ ArgR s i ts (j' + 1) t' r' := by
  rcases hs with ⟨_, h1, h2, ⟨r', h3, h3'⟩, h4, h5⟩ | ⟨e, _⟩
  · have hj : j' < s.size := by
      unfold byteAt at h44; split at h44
      · assumption
      · cases h44
    rw [addArg_mid, List.append_assoc, List.cons_append] at h3
    subst h3
    have hr : 0 < r'.length := List.length_pos_iff.2 h3'
    refine ⟨_, _, rfl, by omega, by have := h.1; omega, hj, h4, by have := h.2.2.2.1; simp; omega, fun op => ((h.2.2.2.2 op).trans (h5 _)).next ?_⟩
    rw [step_after, if_neg h41, if_pos h44]
  · exact absurd rfl e
end
end Go.Proofs.Ytgcbnndbeoekgaa
