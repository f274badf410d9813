/- terms as trees, in plain Lean: forests, their nodes and their text; what is read from a term's text is the term -/
import Derived.Test.YtgcbnndbeoekgaaDoorMachine
set_option linter.unusedSimpArgs false
set_option linter.unusedVariables false
namespace Go.Proofs.YtgcbnndbeoekgaaDoor
open Go Go.RowKit

/-- trees, one behind the other -/
inductive Fo where
  | nil
  | hole (n : Nat) (rest : Fo)
  | app (name : ByteArray) (kids rest : Fo)
def Fo.size : Fo → Nat
  | .nil => 0
  | .hole _ r => 1 + r.size
  | .app _ k r => 1 + k.size + r.size
def Fo.isNil : Fo → Bool
  | .nil => true
  | _ => false
def Fo.offs : Nat → Fo → List Int
  | _, .nil => []
  | o, .hole _ r => (o : Int) :: r.offs (o + 1)
  | o, .app _ k r => (o : Int) :: r.offs (o + 1 + k.size)
def Fo.flat : Nat → Fo → List TN
  | _, .nil => []
  | o, .hole n r => ⟨n, ByteArray.empty, []⟩ :: r.flat (o + 1)
  | o, .app nm k r => ⟨0, nm, k.offs (o + 1)⟩ :: (k.flat (o + 1) ++ r.flat (o + 1 + k.size))
def Fo.one : Fo → Prop
  | .nil => False
  | .hole _ r => r = .nil
  | .app _ _ r => r = .nil
def Fo.wf : Fo → Prop
  | .nil => True
  | .hole n r => 1 ≤ n ∧ n ≤ 2147483647 ∧ r.wf
  | .app nm k r => rightB nm.data.toList = true ∧ k.wf ∧ r.wf
theorem Fo.flat_len : ∀ (F : Fo) (o : Nat), (F.flat o).length = F.size
  | .nil, _ => rfl
  | .hole _ r, o => by show (r.flat (o + 1)).length + 1 = 1 + r.size; rw [flat_len r]; omega
  | .app _ k r, o => by show (k.flat (o + 1) ++ r.flat (o + 1 + k.size)).length + 1 = 1 + k.size + r.size; rw [List.length_append, flat_len k, flat_len r]; omega

/-! ### A number's figures -/
def digs (n : Nat) : List UInt8 := if n < 10 then [UInt8.ofNat (48 + n)] else digs (n / 10) ++ [UInt8.ofNat (48 + n % 10)]
theorem fig_of {d : Nat} (h : d < 10) : (UInt8.ofNat (48 + d)).toNat = 48 + d := by simp; omega
theorem digs_small {n : Nat} (h : n < 10) : digs n = [UInt8.ofNat (48 + n)] := by rw [digs, if_pos h]
theorem digs_big {n : Nat} (h : ¬ n < 10) : digs n = digs (n / 10) ++ [UInt8.ofNat (48 + n % 10)] := by rw [digs, if_neg h]
theorem fig_figure {d : Nat} (h : d < 10) : figureB (UInt8.ofNat (48 + d)) = true := by
  unfold figureB figureI
  rw [fig_of h]
  simp only [Bool.and_eq_true, decide_eq_true_eq]; omega
theorem digs_fig (n : Nat) : (digs n).all figureB = true := by
  induction n using Nat.strongRecOn with
  | _ n ih =>
    by_cases h : n < 10
    · rw [digs_small h, List.all_cons, fig_figure h]; rfl
    · rw [digs_big h, List.all_append, ih (n / 10) (by omega), List.all_cons, fig_figure (show n % 10 < 10 by omega)]; rfl
theorem digs_val (n : Nat) : digitsVal (digs n) = n := by
  induction n using Nat.strongRecOn with
  | _ n ih =>
    by_cases h : n < 10
    · rw [digs_small h]; show 10 * 0 + ((UInt8.ofNat (48 + n)).toNat - 48) = n; rw [fig_of h]; omega
    · rw [digs_big h, digitsVal_snoc, ih (n / 10) (by omega), fig_of (show n % 10 < 10 by omega)]; omega
theorem digs_ne (n : Nat) : digs n ≠ [] := by
  by_cases h : n < 10
  · rw [digs_small h]; simp
  · rw [digs_big h]; simp
theorem digs_head (n : Nat) (hn : 0 < n) : (digs n).head? ≠ some 48 := by
  induction n using Nat.strongRecOn with
  | _ n ih =>
    by_cases h : n < 10
    · rw [digs_small h]
      intro e
      simp only [List.head?_cons, Option.some.injEq] at e
      have := congrArg UInt8.toNat e
      rw [fig_of h] at this
      have : (48 : UInt8).toNat = 48 := rfl
      omega
    · rw [digs_big h, List.head?_append]
      have := ih (n / 10) (by omega) (by omega)
      cases e : (digs (n / 10)).head? with
      | none => exact absurd (List.head?_eq_none_iff.1 e) (digs_ne _)
      | some c => rw [e] at this; simpa using this
theorem digs_len (k n : Nat) (h : n < 10 ^ (k + 1)) : (digs n).length ≤ k + 1 := by
  induction k generalizing n with
  | zero => rw [digs_small (by simpa using h)]; simp
  | succ k ih =>
    by_cases h1 : n < 10
    · rw [digs_small h1]; simp
    · rw [digs_big h1]
      have := ih (n / 10) (by rw [Nat.pow_succ] at h; omega)
      simp; omega
theorem digitsVal_le (a b : List UInt8) : digitsVal a ≤ digitsVal (a ++ b) := by
  rcases List.eq_nil_or_concat b with rfl | ⟨r, c, e⟩
  · simp
  · have ih := digitsVal_le a r
    rw [List.concat_eq_append] at e
    subst e
    rw [← List.append_assoc, digitsVal_snoc]; omega
termination_by b.length
decreasing_by subst e; simp
theorem head_fig {l : List UInt8} (h : l.all figureB = true) (hn : l ≠ []) : l.head? ≠ some 45 := by
  cases l with
  | nil => exact absurd rfl hn
  | cons c r =>
    simp only [List.all_cons, Bool.and_eq_true] at h
    intro e
    simp only [List.head?_cons, Option.some.injEq] at e
    rw [e] at h
    exact absurd h.1 (by decide)
theorem numB_fig {l : List UInt8} (h : l.all figureB = true) (hn : l ≠ []) (h0 : l.head? ≠ some 48) (hl : l.length ≤ 19) (hv : digitsVal l ≤ 2147483647) : numB l = digitsVal l := by
  have h1 := digitsVal_head l h hn h0
  have hm : magB l = some (digitsVal l) := by
    unfold magB
    rw [if_neg]
    rintro (e | e | e)
    · exact hn (List.eq_nil_of_length_eq_zero e)
    · omega
    · rw [h] at e; cases e
  have hi : intB l = some (digitsVal l : Int) := by
    unfold intB
    rw [if_neg (head_fig h hn), if_neg (fun e => h0 e.1), hm]
    show (if digitsVal l ≤ _ then _ else _) = _
    rw [if_pos (by omega)]
  unfold numB
  rw [hi]
  show (if 1 ≤ (digitsVal l : Int) ∧ (digitsVal l : Int) ≤ 2147483647 then _ else _) = _
  rw [if_pos (by omega)]
theorem numB_bad {l : List UInt8} {c : UInt8} (h : l.all figureB = true) (hn : l ≠ []) (hc : figureB c = false) : numB (l ++ [c]) = 0 := by
  have hm : magB (l ++ [c]) = none := by
    unfold magB
    rw [if_pos]
    exact .inr (.inr (by rw [List.all_append]; simp [hc]))
  have hh : (l ++ [c]).head? ≠ some 45 := by
    have := head_fig h hn
    rw [List.head?_append]
    cases e : l.head? with
    | none => exact absurd (List.head?_eq_none_iff.1 e) hn
    | some x => rw [e] at this; simpa using this
  have hi : intB (l ++ [c]) = none := by
    unfold intB
    rw [if_neg hh]
    split
    · rfl
    · rw [hm]
  unfold numB
  rw [hi]; rfl

/-! ### Where a name, and a number, end -/
theorem cut_list (s : ByteArray) (a b : Nat) : cut s a b = (s.data.toList.drop a).take (b - a) := by
  unfold cut
  rw [ByteArray.data_extract, Array.toList_extract]
theorem size_list (s : ByteArray) : s.size = s.data.toList.length := rfl
theorem byteAt_list (s : ByteArray) (i : Nat) : byteAt s i = s.data.toList[i]? := by
  unfold byteAt
  split
  · rename_i h
    rw [List.getElem?_eq_getElem (show i < s.data.toList.length from h)]
    rfl
  · rename_i h
    rw [List.getElem?_eq_none (show s.data.toList.length ≤ i from Nat.le_of_not_lt h)]
section
variable {s : ByteArray} {p t q : List UInt8}
theorem cut_in (h : s.data.toList = p ++ (t ++ q)) (j : Nat) : cut s p.length (p.length + j) = (t ++ q).take j := by
  rw [cut_list, h, List.drop_left]; congr 1; omega
theorem cut_in1 {c : UInt8} (h : s.data.toList = p ++ c :: (t ++ q)) (j : Nat) : cut s (p.length + 1) (p.length + 1 + j) = (t ++ q).take j := by
  rw [cut_list, h, show p ++ c :: (t ++ q) = (p ++ [c]) ++ (t ++ q) by simp, show p.length + 1 = (p ++ [c]).length by simp, List.drop_left]; congr 1; omega
theorem byte_at (h : s.data.toList = p ++ q) : byteAt s p.length = q.head? := by
  rw [byteAt_list, h, List.getElem?_append_right (Nat.le_refl _), Nat.sub_self]
  cases q <;> rfl
theorem rightB_take {l : List UInt8} (h : rightB l = true) {j : Nat} (hj : 0 < j) : rightB (l.take j) = true := by
  cases l with
  | nil => cases h
  | cons c r =>
    obtain ⟨k, rfl⟩ : ∃ k, j = k + 1 := ⟨j - 1, by omega⟩
    simp only [rightB, Bool.and_eq_true, decide_eq_true_eq] at h
    obtain ⟨⟨h1, h2⟩, h3⟩ := h
    rw [List.take_succ_cons]
    simp only [rightB, Bool.and_eq_true, decide_eq_true_eq]
    refine ⟨⟨?_, h2⟩, ?_⟩
    · rw [List.length_take]; omega
    · rw [List.all_eq_true] at h3 ⊢
      exact fun x hx => h3 x (List.mem_of_mem_take hx)
theorem rightB_pos {l : List UInt8} (h : rightB l = true) : 0 < l.length := by
  cases l with
  | nil => cases h
  | cons c r => simp
/-- what may stand behind a term -/
def Beh (q : List UInt8) : Prop := q = [] ∨ ∃ c r, q = c :: r ∧ (c = 41 ∨ c = 44)
theorem name_ends (h : s.data.toList = p ++ (t ++ q)) (hr : rightB t = true) (hq : q = [] ∨ ∃ c r, q = c :: r ∧ wordB c = false) : nameEnd s p.length = p.length + t.length := by
  have hsz : s.size = p.length + (t.length + q.length) := by rw [size_list, h]; simp
  refine ends_at _ _ _ (Nat.le_add_right _ _) (by omega) (fun k h1 h2 => ?_) ?_
  · obtain ⟨j, rfl⟩ : ∃ j, k = p.length + j := ⟨k - p.length, by omega⟩
    unfold nameP
    rw [show p.length + j + 1 = p.length + (j + 1) by omega, cut_in h, List.take_append_of_le_length (by omega), rightB_take hr (by omega)]
    simp; omega
  · unfold nameP
    rcases hq with rfl | ⟨c, r, rfl, hc⟩
    · rw [decide_eq_false (by simp at hsz; omega)]; rfl
    · rw [show p.length + t.length + 1 = p.length + (t.length + 1) by omega, cut_in h, List.take_append, List.take_of_length_le (by omega), show t.length + 1 - t.length = 1 by omega, List.take_succ_cons, List.take_zero]
      rw [rightB_no (i := t.length) (by simp) (by simpa using hc)]
      simp
theorem name_is (h : s.data.toList = p ++ (t ++ q)) : (s.extract p.length (p.length + t.length)).data.toList = t := by
  have := cut_in h t.length
  unfold cut at this
  rw [this, List.take_append_of_le_length (Nat.le_refl _), List.take_length]
theorem hole_ends {n : Nat} (h : s.data.toList = p ++ 63 :: (digs n ++ q)) (h1 : 1 ≤ n) (h2 : n ≤ 2147483647) (hq : q = [] ∨ ∃ c r, q = c :: r ∧ figureB c = false) :
    holeEnd s p.length = p.length + 1 + (digs n).length ∧ numB (cut s (p.length + 1) (p.length + 1 + (digs n).length)) = n := by
  have hsz : s.size = p.length + (1 + ((digs n).length + q.length)) := by rw [size_list, h]; simp; omega
  have hlen := digs_len 9 n (by omega)
  have hfig := digs_fig n
  have hval := digs_val n
  have hpre : ∀ j, 0 < j → j ≤ (digs n).length → numB ((digs n).take j) = digitsVal ((digs n).take j) ∧ 1 ≤ digitsVal ((digs n).take j) := fun j hj hj2 => by
    have a1 : ((digs n).take j).all figureB = true := by
      rw [List.all_eq_true] at hfig ⊢
      exact fun x hx => hfig x (List.mem_of_mem_take hx)
    have a2 : (digs n).take j ≠ [] := by
      intro e
      have := congrArg List.length e
      rw [List.length_take, List.length_nil] at this; omega
    have a3 : ((digs n).take j).head? ≠ some 48 := by
      rw [List.head?_take, if_neg (by omega)]
      exact digs_head n (by omega)
    have a4 : digitsVal ((digs n).take j) ≤ n := by
      have := digitsVal_le ((digs n).take j) ((digs n).drop j)
      rw [List.take_append_drop, hval] at this
      exact this
    exact ⟨numB_fig a1 a2 a3 (by rw [List.length_take]; omega) (by omega), digitsVal_head _ a1 a2 a3⟩
  refine ⟨ends_at _ _ _ (Nat.le_add_right _ _) (by omega) (fun k k1 k2 => ?_) ?_, ?_⟩
  · obtain ⟨j, rfl⟩ : ∃ j, k = p.length + 1 + j := ⟨k - (p.length + 1), by omega⟩
    unfold holeP
    rw [show p.length + 1 + j + 1 = p.length + 1 + (j + 1) by omega, cut_in1 h, List.take_append_of_le_length (by omega)]
    have := hpre (j + 1) (by omega) (by omega)
    rw [this.1]
    have h3 := this.2
    simp; omega
  · unfold holeP
    rcases hq with rfl | ⟨c, r, rfl, hc⟩
    · rw [decide_eq_false (by simp at hsz; omega)]; rfl
    · rw [show p.length + 1 + (digs n).length + 1 = p.length + 1 + ((digs n).length + 1) by omega, cut_in1 h, List.take_append, List.take_of_length_le (by omega), show (digs n).length + 1 - (digs n).length = 1 by omega, List.take_succ_cons, List.take_zero]
      rw [numB_bad hfig (digs_ne n) hc]
      simp
  · have e := hpre (digs n).length (List.length_pos_iff.2 (digs_ne n)) (Nat.le_refl _)
    rw [cut_in1 h, List.take_append_of_le_length (Nat.le_refl _), e.1, List.take_length, hval]
theorem Beh.word {q : List UInt8} (h : Beh q) : q = [] ∨ ∃ c r, q = c :: r ∧ wordB c = false := by
  rcases h with h | ⟨c, r, h, rfl | rfl⟩
  · exact .inl h
  · exact .inr ⟨_, r, h, by decide⟩
  · exact .inr ⟨_, r, h, by decide⟩
theorem Beh.fig {q : List UInt8} (h : Beh q) : q = [] ∨ ∃ c r, q = c :: r ∧ figureB c = false := by
  rcases h with h | ⟨c, r, h, rfl | rfl⟩
  · exact .inl h
  · exact .inr ⟨_, r, h, by decide⟩
  · exact .inr ⟨_, r, h, by decide⟩
end

/-! ### A term's text is read as the term -/
def par (b : Bool) (t : List UInt8) : List UInt8 := if b = true then [] else 40 :: (t ++ [41])
/-- the text of trees, a comma ahead of each but the first one -/
def Fo.txt : Bool → Fo → List UInt8
  | _, .nil => []
  | b, .hole n r => (if b = true then [44] else []) ++ (63 :: digs n ++ r.txt true)
  | b, .app nm k r => (if b = true then [44] else []) ++ (nm.data.toList ++ par k.isNil (k.txt false) ++ r.txt true)
theorem Fo.txt_comma : ∀ {F : Fo}, F.isNil = false → F.txt true = 44 :: F.txt false
  | .nil, h => by cases h
  | .hole _ _, _ => rfl
  | .app _ _ _, _ => rfl
/-- a tree's text is read -/
def Rds (ht : List UInt8) (hn : Nat → List TN) (sz : Nat) : Prop :=
  (∀ o, (hn o).length = sz) ∧ ∀ (s : ByteArray) (p q : List UInt8) (l : List TN) (op : List Nat), s.data.toList = p ++ (ht ++ q) → Beh q → l.length + sz ≤ 256 → Reach s (.due p.length l op) (.after (p.length + ht.length) (l ++ hn l.length) op)
/-- the texts of trees are read, behind an open node's name -/
def RdsB (ht : List UInt8) (of : Nat → List Int) (hn : Nat → List TN) (sz : Nat) : Prop :=
  ∀ (s : ByteArray) (p q : List UInt8) (pre post : List TN) (nm : ByteArray) (args : List Int) (op : List Nat), s.data.toList = p ++ (ht ++ q) → Beh q → pre.length + 1 + post.length + sz ≤ 256 →
    Reach s (.due p.length (pre ++ ⟨0, nm, args ++ [((pre.length + 1 + post.length : Nat) : Int)]⟩ :: post) (op ++ [pre.length]))
      (.after (p.length + ht.length) (pre ++ ⟨0, nm, args ++ of (pre.length + 1 + post.length)⟩ :: (post ++ hn (pre.length + 1 + post.length))) (op ++ [pre.length]))
theorem addArg_in (pre post : List TN) (nm : ByteArray) (args : List Int) (x : Nat) : addArg (pre ++ ⟨0, nm, args⟩ :: post) pre.length x = pre ++ ⟨0, nm, args ++ [(x : Int)]⟩ :: post := by
  have h : pre.length < (pre ++ (⟨0, nm, args⟩ : TN) :: post).length := by simp
  rw [addArg_at h]; simp
theorem rdsB_of {ht : List UInt8} {hn : Nat → List TN} {sz : Nat} (hA : Rds ht hn sz) {r : Fo} (hr : r.isNil = true ∨ RdsB (r.txt false) (fun o => r.offs o) (fun o => r.flat o) r.size) :
    RdsB (ht ++ r.txt true) (fun o => (o : Int) :: r.offs (o + sz)) (fun o => hn o ++ r.flat (o + sz)) (sz + r.size) := by
  intro s p q pre post nm args op hs hq hle
  obtain ⟨o, ho⟩ : ∃ o, pre.length + 1 + post.length = o := ⟨_, rfl⟩
  have hl : (pre ++ (⟨0, nm, args ++ [(o : Int)]⟩ : TN) :: post).length = o := by simp; omega
  rw [ho] at hle ⊢
  by_cases hn0 : r.isNil = true
  · have hrn : r = .nil := by cases r <;> first | rfl | cases hn0
    subst hrn
    have h1 := hA.2 s p q (pre ++ ⟨0, nm, args ++ [(o : Int)]⟩ :: post) (op ++ [pre.length]) (by simpa [Fo.txt] using hs) hq (by rw [hl]; simp [Fo.size] at hle; omega)
    rw [hl] at h1
    simpa [Fo.txt, Fo.offs, Fo.flat] using h1
  · have hn1 : r.isNil = false := by simpa using hn0
    have hB := hr.resolve_left hn0
    have hc := Fo.txt_comma hn1
    rw [hc] at hs ⊢
    have h1 := hA.2 s p (44 :: (r.txt false ++ q)) (pre ++ ⟨0, nm, args ++ [(o : Int)]⟩ :: post) (op ++ [pre.length]) (by rw [hs]; simp) (.inr ⟨44, _, rfl, .inr rfl⟩) (by rw [hl]; omega)
    rw [hl] at h1
    have hp : (p ++ ht ++ [44]).length = p.length + ht.length + 1 := by simp; omega
    have hb : byteAt s (p.length + ht.length) = some 44 := by
      have := byte_at (s := s) (p := p ++ ht) (q := 44 :: (r.txt false ++ q)) (by rw [hs]; simp)
      rw [List.length_append] at this
      rw [this]; rfl
    have hlen : (pre ++ (⟨0, nm, args ++ [(o : Int)]⟩ : TN) :: post ++ hn o).length = o + sz := by rw [List.length_append, hl, hA.1]
    have h2 := h1.next (step_after (s := s) (i := p.length + ht.length) (l := pre ++ ⟨0, nm, args ++ [(o : Int)]⟩ :: post ++ hn o) (op := op) pre.length)
    rw [hb, if_neg (by decide), if_pos rfl, hlen, List.append_assoc, List.cons_append, addArg_in] at h2
    have h3 := hB s (p ++ ht ++ [44]) q pre (post ++ hn o) nm (args ++ [(o : Int)]) op (by rw [hs]; simp) hq (by rw [List.length_append, hA.1]; omega)
    have e : pre.length + 1 + (post ++ hn o).length = o + sz := by rw [List.length_append, hA.1]; omega
    rw [e, hp] at h3
    have h4 := h2.trans h3
    have e2 : p.length + ht.length + 1 + (r.txt false).length = p.length + (ht ++ 44 :: r.txt false).length := by simp; omega
    rw [e2] at h4
    simpa [List.append_assoc] using h4
theorem rds_hole {n : Nat} (h1 : 1 ≤ n) (h2 : n ≤ 2147483647) : Rds (63 :: digs n) (fun _ => [⟨n, ByteArray.empty, []⟩]) 1 := by
  refine ⟨fun _ => rfl, fun s p q l op hs hq hle => .one ?_⟩
  have hs' : s.data.toList = p ++ 63 :: (digs n ++ q) := by rw [hs]; simp
  obtain ⟨e1, e2⟩ := hole_ends hs' h1 h2 hq.fig
  have hb : byteAt s p.length = some 63 := by rw [byte_at hs']; rfl
  have hpos := List.length_pos_iff.2 (digs_ne n)
  rw [step_due_hole hb (by omega) (by omega), e1, e2]
  congr 1
  simp; omega
theorem ext_list {s : ByteArray} {nm : ByteArray} {a b : Nat} (h : (s.extract a b).data.toList = nm.data.toList) : s.extract a b = nm := by
  cases hx : s.extract a b with
  | mk d =>
    rw [hx] at h
    cases nm with
    | mk e => have := Array.toList_inj.1 h; subst this; rfl
theorem letter_first {t : List UInt8} (h : rightB t = true) : ∃ c r, t = c :: r ∧ letterB c = true := by
  cases t with
  | nil => cases h
  | cons c r =>
    simp only [rightB, Bool.and_eq_true] at h
    exact ⟨c, r, rfl, h.1.2⟩
theorem rds_app {nm : ByteArray} (hr : rightB nm.data.toList = true) {k : Fo} (hk : k.isNil = true ∨ RdsB (k.txt false) (fun o => k.offs o) (fun o => k.flat o) k.size) :
    Rds (nm.data.toList ++ par k.isNil (k.txt false)) (fun o => ⟨0, nm, k.offs (o + 1)⟩ :: k.flat (o + 1)) (1 + k.size) := by
  refine ⟨fun o => by show (k.flat (o + 1)).length + 1 = _; rw [Fo.flat_len]; omega, fun s p q l op hs hq hle => ?_⟩
  obtain ⟨c, rr, hcr, hlet⟩ := letter_first hr
  have h63 : c ≠ 63 := by rintro rfl; exact absurd hlet (by decide)
  have hb : byteAt s p.length = some c := by
    rw [byte_at hs, hcr]; rfl
  by_cases hn0 : k.isNil = true
  · have hkn : k = .nil := by cases k <;> first | rfl | cases hn0
    subst hkn
    have hs' : s.data.toList = p ++ (nm.data.toList ++ q) := by rw [hs]; simp [par, Fo.isNil]
    have e1 := name_ends hs' hr hq.word
    have hx := ext_list (name_is hs')
    have hb2 : byteAt s (p.length + nm.data.toList.length) = q.head? := by
      have := byte_at (s := s) (p := p ++ nm.data.toList) (q := q) (by rw [hs']; simp)
      rwa [List.length_append] at this
    refine .one ?_
    rw [step_due_name hb h63 hlet (by simp [Fo.size] at hle; omega) (by
      rw [e1, hb2]
      rcases hq with rfl | ⟨x, y, rfl, rfl | rfl⟩ <;> simp), e1, hx]
    simp [par, Fo.isNil, Fo.offs, Fo.flat]
  · have hn1 : k.isNil = false := by simpa using hn0
    have hB := hk.resolve_left hn0
    rw [hn1] at hs ⊢
    have hs' : s.data.toList = p ++ (nm.data.toList ++ (40 :: (k.txt false ++ (41 :: q)))) := by rw [hs]; simp [par]
    have e1 := name_ends hs' hr (.inr ⟨40, _, rfl, by decide⟩)
    have hx := ext_list (name_is hs')
    have hb2 : byteAt s (p.length + nm.data.toList.length) = some 40 := by
      have := byte_at (s := s) (p := p ++ nm.data.toList) (q := 40 :: (k.txt false ++ (41 :: q))) (by rw [hs']; simp)
      rw [List.length_append] at this
      rw [this]; rfl
    have hd := step_due_open (s := s) (i := p.length) (l := l) (op := op) hb h63 hlet (by omega) (by rw [e1]; exact hb2)
    rw [e1, hx] at hd
    have e3 : addArg (l ++ [(⟨0, nm, []⟩ : TN)]) l.length (l.length + 1) = l ++ ⟨0, nm, [] ++ [((l.length + 1 : Nat) : Int)]⟩ :: [] := addArg_in l [] nm [] (l.length + 1)
    rw [e3] at hd
    have h3 := hB s (p ++ nm.data.toList ++ [40]) (41 :: q) l [] nm [] op (by rw [hs']; simp) (.inr ⟨41, _, rfl, .inl rfl⟩) (by simp; omega)
    have e4 : (p ++ nm.data.toList ++ [40]).length = p.length + nm.data.toList.length + 1 := by simp; omega
    rw [e4] at h3
    simp only [List.length_nil, Nat.add_zero, List.nil_append] at h3 hd
    have h4 := (Reach.one hd).trans h3
    have hb3 : byteAt s (p.length + nm.data.toList.length + 1 + (k.txt false).length) = some 41 := by
      have := byte_at (s := s) (p := p ++ nm.data.toList ++ [40] ++ k.txt false) (q := 41 :: q) (by rw [hs']; simp)
      rw [List.length_append, e4] at this
      rw [this]; rfl
    have h5 := h4.next (step_after (s := s) l.length)
    rw [hb3, if_pos rfl] at h5
    have e5 : p.length + nm.data.toList.length + 1 + (k.txt false).length + 1 = p.length + (nm.data.toList ++ par false (k.txt false)).length := by simp [par]; omega
    rw [e5] at h5
    simpa using h5
theorem rds_fo : ∀ F : Fo, F.wf → F.isNil = true ∨ RdsB (F.txt false) (fun o => F.offs o) (fun o => F.flat o) F.size
  | .nil, _ => .inl rfl
  | .hole n r, h => .inr (by
      have := rdsB_of (rds_hole h.1 h.2.1) (rds_fo r h.2.2)
      simpa [Fo.txt, Fo.offs, Fo.flat, Fo.size] using this)
  | .app nm k r, h => .inr (by
      have := rdsB_of (rds_app h.1 (rds_fo k h.2.1)) (rds_fo r h.2.2)
      have e : (fun o : Nat => (o : Int) :: r.offs (o + (1 + k.size))) = fun o => (Fo.app nm k r).offs o := by funext o; show _ = (o : Int) :: r.offs (o + 1 + k.size); rw [Nat.add_assoc]
      have e2 : (fun o : Nat => (⟨0, nm, k.offs (o + 1)⟩ : TN) :: k.flat (o + 1) ++ r.flat (o + (1 + k.size))) = fun o => (Fo.app nm k r).flat o := by funext o; show _ = (⟨0, nm, k.offs (o + 1)⟩ : TN) :: (k.flat (o + 1) ++ r.flat (o + 1 + k.size)); rw [Nat.add_assoc]; rfl
      rw [e, e2] at this
      simpa [Fo.txt, Fo.size] using this)
/-- one tree, read from its own text -/
theorem reads_one {F : Fo} (h1 : F.one) (hw : F.wf) (hs : F.size ≤ 256) {s : ByteArray} (ht : s.data.toList = F.txt false) : Reach s (.due 0 [] []) (.done (F.flat 0)) := by
  have hsz : s.size = (F.txt false).length := by rw [size_list, ht]
  cases F with
  | nil => exact h1.elim
  | hole n r =>
    cases (show r = .nil from h1)
    have := (rds_hole hw.1 hw.2.1).2 s [] [] [] [] (by rw [ht]; simp [Fo.txt]) (.inl rfl) (by simp)
    refine this.next ?_
    rw [step_done (by rw [hsz]; simp [Fo.txt])]
    rfl
  | app nm k r =>
    cases (show r = .nil from h1)
    have := (rds_app hw.1 (rds_fo k hw.2.1)).2 s [] [] [] [] (by rw [ht]; simp [Fo.txt]) (.inl rfl) (by simp [Fo.size] at hs; simp; omega)
    refine this.next ?_
    rw [step_done (by rw [hsz]; simp [Fo.txt])]
    simp [Fo.flat]
end Go.Proofs.YtgcbnndbeoekgaaDoor
