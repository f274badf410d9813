import Derived.Test.YtgcbnndbeoekgaaDoorTerm
import Derived.Test.YtgcbnndbeoekgaaDoorSubP
import Derived.Test.YtgcbnndbeoekgaaDoorAwakeP
set_option linter.unusedSimpArgs false
set_option linter.unusedVariables false
/- what is read is printed as it was; what is read of a text's first bytes: in plain Lean -/
namespace Go.Proofs.YtgcbnndbeoekgaaDoor
open Go Go.RowKit

/-! ### Figures -/
theorem figs_digs : ∀ (k : Nat) (l : List UInt8), l.length = k → l.all figureB = true → l ≠ [] → l.head? ≠ some 48 → l = digs (digitsVal l) := by
  intro k
  induction k with
  | zero => intro l hl _ hn _; exact absurd (List.eq_nil_of_length_eq_zero hl) hn
  | succ k ih =>
    intro l hl h hn h0
    rcases List.eq_nil_or_concat l with e | ⟨r, c, e⟩
    · exact absurd e hn
    · rw [List.concat_eq_append] at e
      subst e
      rw [List.all_append, Bool.and_eq_true] at h
      obtain ⟨hr, hc⟩ := h
      have hc : figureB c = true := by simpa using hc
      have hf : 48 ≤ c.toNat ∧ c.toNat ≤ 57 := by
        simp only [figureB, figureI, Bool.and_eq_true, decide_eq_true_eq] at hc
        omega
      have hcc : UInt8.ofNat (48 + (c.toNat - 48)) = c := by
        apply UInt8.toNat.inj
        rw [fig_of (by omega)]; omega
      rw [digitsVal_snoc]
      by_cases hrn : r = []
      · subst hrn
        have e0 : digitsVal [] = 0 := rfl
        rw [e0, show 10 * 0 + (c.toNat - 48) = c.toNat - 48 by omega, digs_small (by omega), hcc]; rfl
      · have hh : r.head? ≠ some 48 := by
          cases r with
          | nil => exact absurd rfl hrn
          | cons x y => simpa using h0
        have ih := ih r (by simpa using hl) hr hrn hh
        have h1 := digitsVal_head r hr hrn hh
        rw [digs_big (by omega), show (10 * digitsVal r + (c.toNat - 48)) / 10 = digitsVal r by omega, show (10 * digitsVal r + (c.toNat - 48)) % 10 = c.toNat - 48 by omega, ← ih, hcc]
theorem numB_digs {l : List UInt8} (h : 0 < numB l) : ∃ n : Nat, numB l = (n : Int) ∧ l = digs n ∧ 1 ≤ n ∧ n ≤ 2147483647 := by
  unfold numB holeOf at h ⊢
  cases hi : intB l with
  | none => rw [hi] at h; exact absurd h (by decide)
  | some z =>
    rw [hi] at h
    have h : 0 < (if 1 ≤ z ∧ z ≤ 2147483647 then z else 0) := h
    by_cases hz : 1 ≤ z ∧ z ≤ 2147483647
    · show ∃ n : Nat, (if 1 ≤ z ∧ z ≤ 2147483647 then z else 0) = (n : Int) ∧ _
      rw [if_pos hz]
      unfold intB at hi
      by_cases h45 : l.head? = some 45
      · rw [if_pos h45] at hi
        by_cases ht : l.tail.head? = some 48
        · rw [if_pos ht] at hi; cases hi
        · rw [if_neg ht] at hi
          cases hm : magB l.tail with
          | none => rw [hm] at hi; cases hi
          | some m =>
            rw [hm] at hi
            have hi : (if m ≤ 9223372036854775808 then some (-(m : Int)) else none) = some z := hi
            by_cases hmm : m ≤ 9223372036854775808
            · rw [if_pos hmm] at hi; injection hi with hi; omega
            · rw [if_neg hmm] at hi; cases hi
      · rw [if_neg h45] at hi
        by_cases h48 : l.head? = some 48 ∧ 1 < l.length
        · rw [if_pos h48] at hi; cases hi
        · rw [if_neg h48] at hi
          unfold magB at hi
          by_cases hb : l.length = 0 ∨ 19 < l.length ∨ l.all figureB = false
          · rw [if_pos hb] at hi; cases hi
          · rw [if_neg hb] at hi
            have hi : (if digitsVal l ≤ 9223372036854775807 then some (digitsVal l : Int) else none) = some z := hi
            by_cases hd : digitsVal l ≤ 9223372036854775807
            · rw [if_pos hd] at hi
              injection hi with hi
              have hfig : l.all figureB = true := by
                cases e : l.all figureB with
                | true => rfl
                | false => exact absurd (.inr (.inr e)) hb
              have hne : l ≠ [] := fun e => hb (.inl (by rw [e]; rfl))
              have h0 : l.head? ≠ some 48 := fun e => by
                cases l with
                | nil => exact hne rfl
                | cons x y =>
                  have ex : x = 48 := by simpa using e
                  have hy : y = [] := by
                    cases y with
                    | nil => rfl
                    | cons a b => exact absurd ⟨e, by simp⟩ h48
                  subst hy; subst ex
                  have : digitsVal [48] = 0 := rfl
                  omega
              exact ⟨digitsVal l, hi.symm, figs_digs _ l rfl hfig hne h0, by omega, by omega⟩
            · rw [if_neg hd] at hi; cases hi
    · rw [if_neg hz] at h; omega

/-! ### Ends -/
section
variable {p p' : Nat → Bool}
theorem ends_last : ∀ (f a : Nat), ends p f a = a ∨ (a < ends p f a ∧ p (ends p f a - 1) = true)
  | 0, a => .inl rfl
  | f + 1, a => by
    show (if p a then ends p f (a + 1) else a) = a ∨ (a < (if p a then ends p f (a + 1) else a) ∧ _)
    by_cases h : p a = true
    · rw [if_pos h]
      have e2 : ends p (f + 1) a = ends p f (a + 1) := if_pos h
      rcases ends_last f (a + 1) with e | ⟨e, e1⟩
      · right
        rw [e2, e]; exact ⟨by omega, h⟩
      · right
        rw [e2]; exact ⟨by omega, e1⟩
    · rw [if_neg h]; exact .inl rfl
theorem ends_all : ∀ (f a k : Nat), a ≤ k → k < ends p f a → p k = true
  | 0, a, k, h1, h2 => by have h2 : k < a := h2; omega
  | f + 1, a, k, h1, h2 => by
    have h2 : k < (if p a then ends p f (a + 1) else a) := h2
    by_cases h : p a = true
    · rw [if_pos h] at h2
      by_cases e : k = a
      · rw [e]; exact h
      · exact ends_all f (a + 1) k (by omega) h2
    · rw [if_neg h] at h2; omega
theorem ends_stop : ∀ (f a m : Nat), m - a ≤ f → (∀ e, m ≤ e → p e = false) → p (ends p f a) = false
  | 0, a, m, h1, h2 => h2 a (by omega)
  | f + 1, a, m, h1, h2 => by
    show p (if p a then ends p f (a + 1) else a) = false
    by_cases h : p a = true
    · rw [if_pos h]; exact ends_stop f (a + 1) m (by omega) h2
    · rw [if_neg h]; simpa using h
theorem ends_ge (f a : Nat) : a ≤ ends p f a := by
  rcases ends_last (p := p) f a with h | h
  · omega
  · omega
/-- the same, but that nothing is behind n -/
theorem ends_cut {n m f a : Nat} (hs : ∀ e, e < n → p' e = p e) (hn : ∀ e, n ≤ e → p' e = false) (hm : ∀ e, m ≤ e → p e = false) (hf : m - a ≤ f) (ha : a ≤ n) : (ends p f a ≤ n → ends p' n a = ends p f a) ∧ (n < ends p f a → ends p' n a = n) := by
  refine ⟨fun h => ?_, fun h => ?_⟩
  · refine ends_at n a _ (ends_ge f a) (by omega) (fun k h1 h2 => ?_) ?_
    · rw [hs k (by omega)]; exact ends_all f a k h1 h2
    · by_cases e : ends p f a < n
      · rw [hs _ e]; exact ends_stop f a m hf hm
      · exact hn _ (by omega)
  · refine ends_at n a n ha (by omega) (fun k h1 h2 => ?_) (hn n (Nat.le_refl _))
    rw [hs k h2]; exact ends_all f a k h1 (by omega)
end
theorem nameP_out {s : ByteArray} {i e : Nat} (h : s.size ≤ e) : nameP s i e = false := by
  unfold nameP; rw [decide_eq_false (by omega)]; rfl
theorem holeP_out {s : ByteArray} {i e : Nat} (h : s.size ≤ e) : holeP s i e = false := by
  unfold holeP; rw [decide_eq_false (by omega)]; rfl
theorem nameEnd_is {s : ByteArray} {i : Nat} (h : nameEnd s i ≠ i) : i < nameEnd s i ∧ nameEnd s i ≤ s.size ∧ rightB (cut s i (nameEnd s i)) = true := by
  rcases ends_last (p := nameP s i) s.size i with e | ⟨e, e1⟩
  · exact absurd e h
  · have e : i < nameEnd s i := e
    have e1 : nameP s i (nameEnd s i - 1) = true := e1
    unfold nameP at e1
    rw [Bool.and_eq_true, decide_eq_true_eq, show nameEnd s i - 1 + 1 = nameEnd s i by omega] at e1
    exact ⟨e, by omega, e1.2⟩
theorem holeEnd_is {s : ByteArray} {i : Nat} (h : holeEnd s i ≠ i + 1) : i + 1 < holeEnd s i ∧ holeEnd s i ≤ s.size ∧ 0 < numB (cut s (i + 1) (holeEnd s i)) := by
  rcases ends_last (p := holeP s i) s.size (i + 1) with e | ⟨e, e1⟩
  · exact absurd e h
  · have e : i + 1 < holeEnd s i := e
    have e1 : holeP s i (holeEnd s i - 1) = true := e1
    unfold holeP at e1
    rw [Bool.and_eq_true, decide_eq_true_eq, decide_eq_true_eq, show holeEnd s i - 1 + 1 = holeEnd s i by omega] at e1
    exact ⟨e, by omega, e1.2⟩
theorem nameEnd_pos {s : ByteArray} {i : Nat} {c : UInt8} (h : byteAt s i = some c) (hl : letterB c = true) : nameEnd s i ≠ i := by
  have hi : i < s.size := by
    rcases Nat.lt_or_ge i s.size with h' | h'
    · exact h'
    · rw [byteAt_ge (by omega)] at h; cases h
  rw [byteAt_list] at h
  have hp : nameP s i i = true := by
    unfold nameP
    rw [Bool.and_eq_true, decide_eq_true_eq]
    refine ⟨hi, ?_⟩
    rw [cut_list, show i + 1 - i = 1 by omega]
    have : s.data.toList.drop i = c :: s.data.toList.drop (i + 1) := by
      obtain ⟨hlt, he⟩ := List.getElem?_eq_some_iff.1 h
      rw [List.drop_eq_getElem_cons hlt, he]
    rw [this, List.take_succ_cons, List.take_zero]
    simp [rightB, hl]
  intro e
  have := ends_stop (p := nameP s i) s.size i s.size (by omega) (fun e h => nameP_out h)
  have e : ends (nameP s i) s.size i = i := e
  rw [e, hp] at this; cases this

/-! ### Where the reader stands -/
abbrev Fr := ByteArray × Fo
def commaT (K : Fo) : List UInt8 := if K.isNil = true then [] else [44]
def cT : List Fr → List UInt8
  | [] => []
  | (nm, K) :: fs => nm.data.toList ++ (40 :: (K.txt false ++ commaT K)) ++ cT fs
def cS : List Fr → Nat
  | [] => 0
  | (_, K) :: fs => 1 + K.size + cS fs
def cN : Nat → List Fr → List TN
  | _, [] => []
  | o, (nm, K) :: fs => ⟨0, nm, K.offs (o + 1) ++ [((o + 1 + K.size : Nat) : Int)]⟩ :: (K.flat (o + 1) ++ cN (o + 1 + K.size) fs)
def cO : Nat → List Fr → List Nat
  | _, [] => []
  | o, (_, K) :: fs => o :: cO (o + 1 + K.size) fs
def cW : List Fr → Prop
  | [] => True
  | (nm, K) :: fs => rightB nm.data.toList = true ∧ K.wf ∧ cW fs
theorem cT_snoc : ∀ (fs : List Fr) (nm : ByteArray) (K : Fo), cT (fs ++ [(nm, K)]) = cT fs ++ (nm.data.toList ++ (40 :: (K.txt false ++ commaT K)))
  | [], nm, K => by simp [cT]
  | (a, B) :: fs, nm, K => by
    have ih := cT_snoc fs nm K
    show a.data.toList ++ (40 :: (B.txt false ++ commaT B)) ++ cT (fs ++ [(nm, K)]) = a.data.toList ++ (40 :: (B.txt false ++ commaT B)) ++ cT fs ++ _
    rw [ih]; simp only [List.append_assoc]
theorem cS_snoc : ∀ (fs : List Fr) (nm : ByteArray) (K : Fo), cS (fs ++ [(nm, K)]) = cS fs + (1 + K.size)
  | [], nm, K => by show 1 + K.size + 0 = 0 + (1 + K.size); omega
  | (a, B) :: fs, nm, K => by
    have ih := cS_snoc fs nm K
    show 1 + B.size + cS (fs ++ [(nm, K)]) = 1 + B.size + cS fs + _
    omega
theorem cN_len : ∀ (fs : List Fr) (o : Nat), (cN o fs).length = cS fs
  | [], _ => rfl
  | (a, B) :: fs, o => by
    have ih := cN_len fs (o + 1 + B.size)
    show (B.flat (o + 1) ++ cN (o + 1 + B.size) fs).length + 1 = 1 + B.size + cS fs
    rw [List.length_append, Fo.flat_len, ih]; omega
theorem cN_snoc : ∀ (fs : List Fr) (o : Nat) (nm : ByteArray) (K : Fo), cN o (fs ++ [(nm, K)]) = cN o fs ++ (⟨0, nm, K.offs (o + cS fs + 1) ++ [((o + cS fs + 1 + K.size : Nat) : Int)]⟩ :: K.flat (o + cS fs + 1))
  | [], o, nm, K => by
    show (⟨0, nm, K.offs (o + 1) ++ [((o + 1 + K.size : Nat) : Int)]⟩ : TN) :: (K.flat (o + 1) ++ []) = _
    rw [List.append_nil]; rfl
  | (a, B) :: fs, o, nm, K => by
    have ih := cN_snoc fs (o + 1 + B.size) nm K
    have e : o + 1 + B.size + cS fs = o + (1 + B.size + cS fs) := by omega
    rw [e] at ih
    show (⟨0, a, B.offs (o + 1) ++ [((o + 1 + B.size : Nat) : Int)]⟩ : TN) :: (B.flat (o + 1) ++ cN (o + 1 + B.size) (fs ++ [(nm, K)])) = (⟨0, a, B.offs (o + 1) ++ [((o + 1 + B.size : Nat) : Int)]⟩ : TN) :: (B.flat (o + 1) ++ cN (o + 1 + B.size) fs) ++ _
    rw [ih]
    simp only [List.cons_append, List.append_assoc]
    rfl
theorem cO_snoc : ∀ (fs : List Fr) (o : Nat) (nm : ByteArray) (K : Fo), cO o (fs ++ [(nm, K)]) = cO o fs ++ [o + cS fs]
  | [], o, nm, K => rfl
  | (a, B) :: fs, o, nm, K => by
    have ih := cO_snoc fs (o + 1 + B.size) nm K
    show o :: cO (o + 1 + B.size) (fs ++ [(nm, K)]) = o :: cO (o + 1 + B.size) fs ++ [o + (1 + B.size + cS fs)]
    rw [ih, show o + 1 + B.size + cS fs = o + (1 + B.size + cS fs) by omega]; rfl
theorem cW_snoc : ∀ {fs : List Fr} {nm : ByteArray} {K : Fo}, cW (fs ++ [(nm, K)]) ↔ cW fs ∧ rightB nm.data.toList = true ∧ K.wf
  | [], nm, K => ⟨fun h => ⟨trivial, h.1, h.2.1⟩, fun h => ⟨h.2.1, h.2.2, trivial⟩⟩
  | (a, B) :: fs, nm, K => by
    have ih := @cW_snoc fs nm K
    constructor
    · intro h; exact ⟨⟨h.1, h.2.1, (ih.1 h.2.2).1⟩, (ih.1 h.2.2).2⟩
    · intro h; exact ⟨h.1.1, h.1.2.1, ih.2 ⟨h.1.2.2, h.2⟩⟩
/-- what the reader has gone through is what it has -/
def Inv (s : ByteArray) : St → Prop
  | .due i l op => ∃ fs : List Fr, s.data.toList.take i = cT fs ∧ i ≤ s.size ∧ l = cN 0 fs ∧ op = cO 0 fs ∧ cW fs ∧ l.length ≤ 256
  | .after i l op => ∃ (fs : List Fr) (T : Fo), T.one ∧ T.wf ∧ s.data.toList.take i = cT fs ++ T.txt false ∧ i ≤ s.size ∧ l = cN 0 fs ++ T.flat (cS fs) ∧ op = cO 0 fs ∧ cW fs ∧ l.length ≤ 256
  | .fail i e => i ≤ s.size ∧ (e = 2 ∨ e = 3)
  | .done l => ∃ T, OkT T ∧ T.txt false = s.data.toList ∧ l = T.flat 0
theorem take_to {s : ByteArray} {i j : Nat} (h : i ≤ j) : s.data.toList.take j = s.data.toList.take i ++ cut s i j := by
  rw [cut_list, ← List.take_add, show i + (j - i) = j by omega]
theorem take_one {s : ByteArray} {i : Nat} {c : UInt8} (h : byteAt s i = some c) : i < s.size ∧ s.data.toList.take (i + 1) = s.data.toList.take i ++ [c] := by
  rw [byteAt_list] at h
  obtain ⟨hlt, he⟩ := List.getElem?_eq_some_iff.1 h
  exact ⟨hlt, by rw [List.take_succ_eq_append_getElem hlt, he]⟩
theorem cut_first {s : ByteArray} {i j : Nat} {c : UInt8} (h : byteAt s i = some c) (hj : i < j) : cut s i j = c :: cut s (i + 1) j := by
  rw [byteAt_list] at h
  obtain ⟨hlt, he⟩ := List.getElem?_eq_some_iff.1 h
  rw [cut_list, cut_list, List.drop_eq_getElem_cons hlt, he, show j - i = (j - (i + 1)) + 1 by omega, List.take_succ_cons]
theorem txt_one_app (nm : ByteArray) (K : Fo) : (Fo.app nm K .nil).txt false = nm.data.toList ++ par K.isNil (K.txt false) := by
  show [] ++ (nm.data.toList ++ par K.isNil (K.txt false) ++ []) = _
  simp
theorem txt_one_hole (n : Nat) : (Fo.hole n .nil).txt false = 63 :: digs n := by
  show [] ++ (63 :: digs n ++ []) = _
  simp
theorem one_nil {T : Fo} (h : T.one) : T.isNil = false := by cases T <;> first | rfl | exact h.elim
theorem txt_kids (K : Fo) {T : Fo} (h : T.one) : (K.app2 T).txt false = K.txt false ++ (commaT K ++ T.txt false) := by
  rw [Fo.txt_app2]
  unfold commaT
  cases hk : K.isNil with
  | true => simp
  | false =>
    have e : (false || !false) = true := rfl
    rw [e, Fo.txt_comma (one_nil h)]; simp
theorem kids_nil (K : Fo) {T : Fo} (h : T.one) : (K.app2 T).isNil = false := by rw [Fo.isNil_app2, one_nil h]; simp
theorem kids_offs (K : Fo) {T : Fo} (h : T.one) (o : Nat) : (K.app2 T).offs o = K.offs o ++ [((o + K.size : Nat) : Int)] := by rw [Fo.offs_app2, Fo.one_offs h]
theorem inv_step {s : ByteArray} {a : St} (h : Inv s a) : Inv s (step s a) := by
  cases a with
  | fail i e => exact h
  | done l => exact h
  | due i l op =>
    obtain ⟨fs, h1, h2, h3, h4, h5, h6⟩ := h
    have hl : l.length = cS fs := by rw [h3, cN_len]
    cases hb : byteAt s i with
    | none => rw [step_due_none hb]; exact ⟨h2, .inl rfl⟩
    | some c =>
      obtain ⟨hlt, ht⟩ := take_one hb
      by_cases h63 : c = 63
      · subst h63
        by_cases h256 : l.length = 256
        · rw [step_due_long hb (.inl rfl) h256]; exact ⟨h2, .inr rfl⟩
        · by_cases he : holeEnd s i = i + 1
          · rw [step_due_nohole hb h256 he]; exact ⟨hlt, .inl rfl⟩
          · rw [step_due_hole hb h256 he]
            obtain ⟨e1, e2, e3⟩ := holeEnd_is he
            obtain ⟨n, n1, n2, n3, n4⟩ := numB_digs e3
            rw [n1]
            refine ⟨fs, .hole n .nil, rfl, ⟨n3, n4, trivial⟩, ?_, e2, ?_, h4, h5, ?_⟩
            · rw [take_to (i := i) (by omega), h1, cut_first hb (by omega), n2, txt_one_hole]
            · rw [h3]; rfl
            · rw [List.length_append]; show l.length + 1 ≤ 256; omega
      · cases hlet : letterB c with
        | false => rw [step_due_bad hb h63 hlet]; exact ⟨h2, .inl rfl⟩
        | true =>
          by_cases h256 : l.length = 256
          · rw [step_due_long hb (.inr hlet) h256]; exact ⟨h2, .inr rfl⟩
          · obtain ⟨e1, e2, e3⟩ := nameEnd_is (nameEnd_pos hb hlet)
            by_cases h40 : byteAt s (nameEnd s i) = some 40
            · rw [step_due_open hb h63 hlet h256 h40]
              obtain ⟨hlt2, ht2⟩ := take_one h40
              refine ⟨fs ++ [(s.extract i (nameEnd s i), .nil)], ?_, hlt2, ?_, ?_, (cW_snoc (K := .nil)).2 ⟨h5, e3, trivial⟩, ?_⟩
              · rw [ht2, take_to (i := i) (by omega), h1, cT_snoc]
                show cT fs ++ cut s i (nameEnd s i) ++ [40] = cT fs ++ (cut s i (nameEnd s i) ++ [40])
                rw [List.append_assoc]
              · have e4 : addArg (l ++ [(⟨0, s.extract i (nameEnd s i), []⟩ : TN)]) l.length (l.length + 1) = l ++ ⟨0, s.extract i (nameEnd s i), [] ++ [((l.length + 1 : Nat) : Int)]⟩ :: [] := addArg_in l [] _ [] (l.length + 1)
                rw [e4, cN_snoc, ← h3, hl]
                simp [Fo.offs, Fo.flat, Fo.size]
              · rw [cO_snoc, h4, hl]; simp
              · rw [addArg_length, List.length_append]; show l.length + 1 ≤ 256; omega
            · rw [step_due_name hb h63 hlet h256 h40]
              refine ⟨fs, .app (s.extract i (nameEnd s i)) .nil .nil, rfl, ⟨e3, trivial, trivial⟩, ?_, e2, ?_, h4, h5, ?_⟩
              · rw [take_to (i := i) (by omega), h1, txt_one_app]
                show cT fs ++ cut s i (nameEnd s i) = cT fs ++ (cut s i (nameEnd s i) ++ [])
                rw [List.append_nil]
              · rw [h3]; rfl
              · rw [List.length_append]; show l.length + 1 ≤ 256; omega
  | after i l op =>
    obtain ⟨fs, T, t1, t2, h1, h2, h3, h4, h5, h6⟩ := h
    rcases List.eq_nil_or_concat fs with e | ⟨fs', ⟨nm, K⟩, e⟩
    · subst e
      have h4 : op = [] := h4
      subst h4
      by_cases hi : i = s.size
      · rw [step_done hi]
        have h3 : l = T.flat 0 := h3
        refine ⟨T, ⟨t1, t2, ?_⟩, ?_, h3⟩
        · rw [h3, Fo.flat_len] at h6; exact h6
        · have h1 : s.data.toList.take i = T.txt false := h1
          rw [← h1, List.take_of_length_le (by rw [hi]; exact Nat.le_refl _)]
      · rw [step_rest hi]; exact ⟨h2, .inl rfl⟩
    · rw [List.concat_eq_append] at e
      subst e
      obtain ⟨w1, w2, w3⟩ := cW_snoc.1 h5
      rw [cO_snoc] at h4
      rw [h4, step_after]
      rw [cT_snoc] at h1
      rw [cN_snoc, cS_snoc] at h3
      simp only [Nat.zero_add] at h3 ⊢
      by_cases h41 : byteAt s i = some 41
      · rw [if_pos h41]
        obtain ⟨hlt, ht⟩ := take_one h41
        refine ⟨fs', .app nm (K.app2 T) .nil, rfl, ⟨w2, Fo.wf_app2 w3 t2, trivial⟩, ?_, hlt, ?_, rfl, w1, h6⟩
        · rw [ht, h1, txt_one_app, kids_nil K t1, txt_kids K t1]
          show _ = cT fs' ++ (nm.data.toList ++ (40 :: ((K.txt false ++ (commaT K ++ T.txt false)) ++ [41])))
          simp
        · rw [h3]
          show _ = cN 0 fs' ++ ((⟨0, nm, (K.app2 T).offs (cS fs' + 1)⟩ : TN) :: ((K.app2 T).flat (cS fs' + 1) ++ []))
          rw [kids_offs K t1, Fo.flat_app2, show cS fs' + (1 + K.size) = cS fs' + 1 + K.size by omega]
          simp
      · rw [if_neg h41]
        by_cases h44 : byteAt s i = some 44
        · rw [if_pos h44]
          obtain ⟨hlt, ht⟩ := take_one h44
          refine ⟨fs' ++ [(nm, K.app2 T)], ?_, hlt, ?_, ?_, cW_snoc.2 ⟨w1, w2, Fo.wf_app2 w3 t2⟩, by rw [addArg_length]; exact h6⟩
          · rw [ht, h1, cT_snoc, txt_kids K t1]
            have : commaT (K.app2 T) = [44] := by unfold commaT; rw [kids_nil K t1]; rfl
            rw [this]; simp
          · have hll : l.length = cS fs' + 1 + (K.app2 T).size := by
              rw [h3]
              simp only [List.length_append, List.length_cons, cN_len, Fo.flat_len, Fo.size_app2]; omega
            have hk : cS fs' = (cN 0 fs').length := (cN_len _ _).symm
            have e5 : l = cN 0 fs' ++ (⟨0, nm, K.offs (cS fs' + 1) ++ [((cS fs' + 1 + K.size : Nat) : Int)]⟩ :: (K.flat (cS fs' + 1) ++ T.flat (cS fs' + (1 + K.size)))) := by rw [h3]; simp
            rw [cN_snoc, kids_offs K t1, Fo.flat_app2]
            simp only [Nat.zero_add]
            rw [← hll]
            have e6 := addArg_in (cN 0 fs') (K.flat (cS fs' + 1) ++ T.flat (cS fs' + (1 + K.size))) nm (K.offs (cS fs' + 1) ++ [((cS fs' + 1 + K.size : Nat) : Int)]) l.length
            rw [← e5, ← hk] at e6
            rw [e6, show cS fs' + (1 + K.size) = cS fs' + 1 + K.size by omega]
          · rw [cO_snoc]; simp
        · rw [if_neg h44]; exact ⟨h2, .inl rfl⟩
theorem inv_reach {s : ByteArray} {a b : St} (h : Inv s a) (hr : Reach s a b) : Inv s b := by
  obtain ⟨n, rfl⟩ := hr
  induction n with
  | zero => exact h
  | succ n ih => exact inv_step ih
theorem inv_start (s : ByteArray) : Inv s (.due 0 [] []) := ⟨[], rfl, Nat.zero_le _, rfl, rfl, trivial, Nat.zero_le _⟩
/-- what a text says: a tree whose text it is; or it is refused at a place in it, by one of two errors -/
theorem Says.back {s : ByteArray} {i err : Int} {l : List TN} (h : Says s i err l) : (i = 0 ∧ err = 0 ∧ ∃ T, OkT T ∧ byt (T.txt false) = s ∧ l = T.flat 0) ∨ (err ≠ 0 ∧ l = [] ∧ 0 ≤ i ∧ i ≤ (s.size : Nat) ∧ (err = 2 ∨ err = 3)) := by
  rcases h with ⟨rfl, rfl, h⟩ | ⟨h1, rfl, k, rfl, h⟩
  · obtain ⟨T, h1, h2, h3⟩ := inv_reach (inv_start s) h
    exact .inl ⟨rfl, rfl, T, h1, by rw [h2]; exact byt_of s, h3⟩
  · obtain ⟨h2, h3⟩ := inv_reach (inv_start s) h
    exact .inr ⟨h1, rfl, by omega, by omega, h3⟩

/-! ### A text's first bytes -/
section
variable {s s' : ByteArray} {n : Nat}
def Out (s' : ByteArray) (n : Nat) (a : St) : Prop := ∀ b, b.still → Reach s' a b → (∃ L, b = .done L) ∨ b = .fail n 2
theorem Out.done (L : List TN) : Out s' n (.done L) := fun b hb hr => .inl ⟨L, Reach.same hr (Reach.refl _ _) hb trivial⟩
theorem Out.fail : Out s' n (.fail n 2) := fun b hb hr => .inr (Reach.same hr (Reach.refl _ _) hb trivial)
theorem Out.step {a : St} (ha : ¬ a.still) (h : Out s' n (step s' a)) : Out s' n a := fun b hb hr => by
  obtain ⟨m, hm⟩ := hr
  cases m with
  | zero => have hm : a = b := hm; rw [hm] at ha; exact absurd hb ha
  | succ m => rw [repeat_succ'] at hm; exact h b hb ⟨m, hm⟩
theorem Out.end_ (hn : s'.size = n) (l : List TN) (op : List Nat) : Out s' n (.after n l op) := by
  refine Out.step (fun h => h) ?_
  rcases List.eq_nil_or_concat op with e | ⟨op', k, e⟩
  · subst e; rw [step_done hn.symm]; exact Out.done _
  · rw [List.concat_eq_append] at e
    subst e
    have hb : byteAt s' n = none := byteAt_ge (by omega)
    rw [step_after, hb, if_neg (by simp), if_neg (by simp)]; exact Out.fail
structure Pre (s s' : ByteArray) (n : Nat) : Prop where
  size : s'.size = n
  le : n ≤ s.size
  byte : ∀ j, j < n → byteAt s' j = byteAt s j
  cut : ∀ a b, b ≤ n → cut s' a b = cut s a b
theorem Pre.ext (h : Pre s s' n) {a b : Nat} (hb : b ≤ n) : s'.extract a b = s.extract a b := ext_list (h.cut a b hb)
theorem Pre.name (h : Pre s s' n) {i : Nat} (hi : i ≤ n) : (nameEnd s i ≤ n → nameEnd s' i = nameEnd s i) ∧ (n < nameEnd s i → nameEnd s' i = n) := by
  have := ends_cut (p := nameP s i) (p' := nameP s' i) (n := n) (m := s.size) (f := s.size) (a := i) (fun e he => by
    unfold nameP
    rw [h.cut i (e + 1) (by omega), h.size, decide_eq_true he, decide_eq_true (show e < s.size from Nat.lt_of_lt_of_le he h.le)]) (fun e he => nameP_out (by rw [h.size]; exact he)) (fun e he => nameP_out he) (by omega) hi
  unfold nameEnd
  rw [h.size]; exact this
theorem Pre.hole (h : Pre s s' n) {i : Nat} (hi : i + 1 ≤ n) : (holeEnd s i ≤ n → holeEnd s' i = holeEnd s i) ∧ (n < holeEnd s i → holeEnd s' i = n) := by
  have := ends_cut (p := holeP s i) (p' := holeP s' i) (n := n) (m := s.size) (f := s.size) (a := i + 1) (fun e he => by
    unfold holeP
    rw [h.cut (i + 1) (e + 1) (by omega), h.size, decide_eq_true he, decide_eq_true (show e < s.size from Nat.lt_of_lt_of_le he h.le)]) (fun e he => holeP_out (by rw [h.size]; exact he)) (fun e he => holeP_out he) (by omega) hi
  unfold holeEnd
  rw [h.size]; exact this
def PosLe (n : Nat) : St → Prop
  | .due i _ _ => i ≤ n
  | .after i _ _ => i ≤ n
  | .fail _ _ => True
  | .done _ => True
theorem fail_done {i : Nat} {e : Int} {m : Nat} {L : List TN} (h : Nat.repeat (step s) m (.fail i e) = .done L) : False := by
  rw [repeat_still (s := s) (a := .fail i e) trivial] at h; cases h
theorem pre_out (h : Pre s s' n) (L : List TN) : ∀ (m : Nat) (a : St), PosLe n a → Nat.repeat (Go.Proofs.YtgcbnndbeoekgaaDoor.step s) m a = .done L → Out s' n a := by
  intro m
  induction m with
  | zero => intro a _ e; have e : a = .done L := e; rw [e]; exact Out.done _
  | succ m ih =>
    intro a ha e
    rw [repeat_succ'] at e
    cases a with
    | fail i er => exact (fail_done (m := m) e).elim
    | done l => exact Out.done _
    | due i l op =>
      have ha : i ≤ n := ha
      refine Out.step (fun h => h) ?_
      by_cases hin : i < n
      · have hbe := h.byte i hin
        cases hb : byteAt s i with
        | none => rw [step_due_none hb] at e; exact (fail_done e).elim
        | some c =>
          rw [hb] at hbe
          by_cases h63 : c = 63
          · subst h63
            by_cases h256 : l.length = 256
            · rw [step_due_long hb (.inl rfl) h256] at e; exact (fail_done e).elim
            · obtain ⟨p1, p2⟩ := h.hole (i := i) (by omega)
              by_cases he : holeEnd s i = i + 1
              · rw [step_due_nohole hb h256 he] at e; exact (fail_done e).elim
              · by_cases hle : holeEnd s i ≤ n
                · have q := p1 hle
                  rw [step_due_hole hb h256 he] at e
                  rw [step_due_hole hbe h256 (by rw [q]; exact he), q, h.cut _ _ hle]
                  exact ih _ hle e
                · have q := p2 (by omega)
                  by_cases hi1 : n = i + 1
                  · rw [step_due_nohole hbe h256 (by rw [q]; exact hi1), ← hi1]; exact Out.fail
                  · rw [step_due_hole hbe h256 (by rw [q]; exact hi1), q]; exact Out.end_ h.size _ _
          · cases hlet : letterB c with
            | false => rw [step_due_bad hb h63 hlet] at e; exact (fail_done e).elim
            | true =>
              by_cases h256 : l.length = 256
              · rw [step_due_long hb (.inr hlet) h256] at e; exact (fail_done e).elim
              · obtain ⟨p1, p2⟩ := h.name (i := i) (by omega)
                have hnone : byteAt s' n = none := byteAt_ge (by rw [h.size]; omega)
                by_cases hlt : nameEnd s i < n
                · have q := p1 (by omega)
                  have hb2 := h.byte (nameEnd s i) hlt
                  by_cases h40 : byteAt s (nameEnd s i) = some 40
                  · rw [step_due_open hb h63 hlet h256 h40] at e
                    rw [step_due_open hbe h63 hlet h256 (by rw [q, hb2]; exact h40), q, h.ext (by omega)]
                    exact ih _ hlt e
                  · rw [step_due_name hb h63 hlet h256 h40] at e
                    rw [step_due_name hbe h63 hlet h256 (by rw [q, hb2]; exact h40), q, h.ext (by omega)]
                    exact ih _ (show nameEnd s i ≤ n by omega) e
                · have q : nameEnd s' i = n := by
                    by_cases heq : nameEnd s i = n
                    · rw [p1 (by omega), heq]
                    · exact p2 (by omega)
                  rw [step_due_name hbe h63 hlet h256 (by rw [q, hnone]; simp), q]; exact Out.end_ h.size _ _
      · have hi : i = n := by omega
        rw [step_due_none (byteAt_ge (by rw [h.size]; omega)), hi]; exact Out.fail
    | after i l op =>
      have ha : i ≤ n := ha
      by_cases hin : i < n
      · refine Out.step (fun h => h) ?_
        have hbe := h.byte i hin
        rcases List.eq_nil_or_concat op with e0 | ⟨op', k, e0⟩
        · subst e0
          rw [step_rest (by have := h.le; omega)] at e; exact (fail_done e).elim
        · rw [List.concat_eq_append] at e0
          subst e0
          rw [step_after] at e ⊢
          rw [hbe]
          by_cases h41 : byteAt s i = some 41
          · rw [if_pos h41] at e ⊢; exact ih _ hin e
          · rw [if_neg h41] at e ⊢
            by_cases h44 : byteAt s i = some 44
            · rw [if_pos h44] at e ⊢; exact ih _ hin e
            · rw [if_neg h44] at e; exact (fail_done e).elim
      · have hi : i = n := by omega
        rw [hi]; exact Out.end_ h.size _ _
theorem pre_take (s : ByteArray) {n : Nat} (hn : n ≤ s.size) : Pre s (s.extract 0 n) n := by
  have hl : (s.extract 0 n).data.toList = s.data.toList.take n := by
    have := cut_list s 0 n
    unfold cut at this
    rw [this, List.drop_zero, Nat.sub_zero]
  refine ⟨?_, hn, fun j hj => ?_, fun a b hb => ?_⟩
  · rw [size_list, hl, List.length_take]
    have : s.data.toList.length = s.size := rfl
    omega
  · rw [byteAt_list, byteAt_list, hl, List.getElem?_take_of_lt hj]
  · rw [cut_list, cut_list, hl, List.drop_take, List.take_take]
    congr 1
    omega
/-- the first bytes of a term's text are a term's text, or are refused at their end -/
theorem Says.pre {T : Fo} (hT : OkT T) {n : Nat} (hn : n ≤ (byt (T.txt false)).size) {i err : Int} {l : List TN} (h : Says ((byt (T.txt false)).extract 0 n) i err l) : err = 0 ∨ (err = 2 ∧ i = (n : Nat)) := by
  obtain ⟨m, hm⟩ := reads_one hT.1 hT.2.1 hT.2.2 (s := byt (T.txt false)) rfl
  have ho := pre_out (pre_take _ hn) (T.flat 0) m (.due 0 [] []) (Nat.zero_le _) hm
  rcases h with ⟨_, e, _⟩ | ⟨h1, rfl, k, rfl, h⟩
  · exact .inl e
  · rcases ho (.fail k err) trivial h with ⟨L, e⟩ | e
    · cases e
    · injection e with e1 e2
      exact .inr ⟨e2, by rw [e1]⟩
end
end Go.Proofs.YtgcbnndbeoekgaaDoor
