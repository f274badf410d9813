import Derived.Test.YtmafhaadcjgcbaaAPlace
import Derived.Test.YtmafhaadcjgcbaaModel
import Derived.Test.YtmafhaadcjgcbaaCopyK
import Derived.Test.YtmafhaadcjgcbaaAIn
import Derived.Test.YtmafhaadcjgcbaaMut3
set_option linter.unusedSimpArgs false
set_option linter.unusedVariables false
section
namespace Go.Proofs.Ytmafhaadcjgcbaa
open Go Go.RowKit

/-! ### Texts, by their order -/
theorem bl_irr : ∀ a : List UInt8, Op.bytesLess a a = false
  | [] => rfl
  | x :: r => by
    have := bl_irr r
    simp [Op.bytesLess, this]
theorem bl_trans : ∀ {a b c : List UInt8}, Op.bytesLess a b = true → Op.bytesLess b c = true → Op.bytesLess a c = true
  | [], [], _, h, _ => by simp [Op.bytesLess] at h
  | [], _ :: _, [], _, h => by simp [Op.bytesLess] at h
  | [], _ :: _, _ :: _, _, _ => by simp [Op.bytesLess]
  | _ :: _, [], _, h, _ => by simp [Op.bytesLess] at h
  | _ :: _, _ :: _, [], _, h => by simp [Op.bytesLess] at h
  | x :: a, y :: b, z :: c, h, k => by
    simp only [Op.bytesLess, Bool.or_eq_true, Bool.and_eq_true, decide_eq_true_eq, beq_iff_eq] at h k ⊢
    rcases h with h | ⟨h1, h2⟩ <;> rcases k with k | ⟨k1, k2⟩
    · exact .inl (UInt8.lt_trans h k)
    · exact .inl (k1 ▸ h)
    · exact .inl (h1 ▸ k)
    · exact .inr ⟨h1.trans k1, bl_trans h2 k2⟩
theorem bl_tri : ∀ (a b : List UInt8), Op.bytesLess a b = true ∨ a = b ∨ Op.bytesLess b a = true
  | [], [] => .inr (.inl rfl)
  | [], _ :: _ => .inl (by simp [Op.bytesLess])
  | _ :: _, [] => .inr (.inr (by simp [Op.bytesLess]))
  | x :: a, y :: b => by
    simp only [Op.bytesLess, Bool.or_eq_true, Bool.and_eq_true, decide_eq_true_eq, beq_iff_eq]
    by_cases h1 : x < y
    · exact .inl (.inl h1)
    by_cases h2 : y < x
    · exact .inr (.inr (.inl h2))
    have e : x = y := UInt8.le_antisymm (UInt8.not_lt.1 h2) (UInt8.not_lt.1 h1)
    subst e
    rcases bl_tri a b with h | h | h
    · exact .inl (.inr ⟨rfl, h⟩)
    · exact .inr (.inl (by rw [h]))
    · exact .inr (.inr (.inr ⟨rfl, h⟩))
/-- is a text less than another? -/
def lessS (a b : ByteArray) : Bool := Op.bytesLess a.toList b.toList
theorem geS_less (a b : ByteArray) : geS a b = !lessS a b := rfl
theorem toList_inj {a b : ByteArray} (h : a.toList = b.toList) : a = b := by
  rw [ByteArray.toList_eq, ByteArray.toList_eq] at h
  cases a; cases b
  simp at h
  rw [h]
theorem lessS_irr (a : ByteArray) : lessS a a = false := bl_irr _
theorem lessS_trans {a b c : ByteArray} (h : lessS a b = true) (k : lessS b c = true) : lessS a c = true := bl_trans h k
theorem lessS_tri (a b : ByteArray) : lessS a b = true ∨ a = b ∨ lessS b a = true := by
  rcases bl_tri a.toList b.toList with h | h | h
  · exact .inl h
  · exact .inr (.inl (toList_inj h))
  · exact .inr (.inr h)
theorem lessS_asym {a b : ByteArray} (h : lessS a b = true) : lessS b a = false := by
  cases e : lessS b a
  · rfl
  · have := lessS_trans h e; rw [lessS_irr] at this; cases this
def cmpI (a b : ByteArray) : Int := if lessS a b then -1 else if lessS b a then 1 else 0
theorem cmpI_neg {a b : ByteArray} : cmpI a b < 0 ↔ lessS a b = true := by
  unfold cmpI
  cases h : lessS a b
  · cases lessS b a <;> simp
  · simp
theorem cmpI_zero {a b : ByteArray} : cmpI a b = 0 ↔ a = b := by
  unfold cmpI
  constructor
  · intro h
    rcases lessS_tri a b with e | e | e
    · rw [e] at h; simp at h
    · exact e
    · rw [lessS_asym e, e] at h; simp at h
  · rintro rfl
    simp [lessS_irr]
theorem eq_list {a b : ByteArray} (h : lessS a b = false) (k : lessS b a = false) : (a.toList == b.toList) = true := by
  rcases lessS_tri a b with e | e | e
  · rw [h] at e; cases e
  · rw [e]; exact beq_self_eq_true _
  · rw [k] at e; cases e
theorem ne_list {a b : ByteArray} (k : lessS b a = true) : (a.toList == b.toList) = false :=
  beq_eq_false_iff_ne.2 fun h => by rw [toList_inj h, lessS_irr] at k; cases k
theorem cmp_any (a b : ByteArray) (w : World) : Calls Try.prog 88 #[.string a, .string b] w fun e w' => e = .returned (.int .i64 (cmpI a b)) ∧ w = w' := by
  go_enter Try.func88, Try.ntmps88
  cases h : lessS a b
  · have h' : Op.bytesLess a.toList b.toList = false := h
    cases k : lessS b a
    · have E := Lib.hid (show cmpI a b = 0 by unfold cmpI; rw [h, k]; rfl)
      have hg := eq_list h k
      clear h k
      go_wp2
      go_ret
      exact ⟨by rw [E.out]; rfl, rfl⟩
    · have E := Lib.hid (show cmpI a b = 1 by unfold cmpI; rw [h, k]; rfl)
      have hg := ne_list k
      clear h k
      go_wp2
      go_ret
      exact ⟨by rw [E.out]; rfl, rfl⟩
  · have h' : Op.bytesLess a.toList b.toList = true := h
    have E := Lib.hid (show cmpI a b = -1 by unfold cmpI; rw [h]; rfl)
    clear h
    go_wp2
    go_ret
    exact ⟨by rw [E.out]; rfl, rfl⟩

/-- by rising texts -/
def SrtN {α : Type} (f : α → ByteArray) (l : List α) : Prop := ∀ i j (hi : i < l.length) (hj : j < l.length), i < j → lessS (f l[i]) (f l[j]) = true
theorem srtN_of {α : Type} {f : α → ByteArray} {l : List α} (h : ∀ i (h : i < l.length), 0 < i → lessS (f (l[i - 1]'(by omega))) (f l[i]) = true) : SrtN f l := by
  intro i j hi hj hij
  obtain ⟨d, rfl⟩ : ∃ d, j = i + 1 + d := ⟨j - (i + 1), by omega⟩
  induction d with
  | zero => exact h (i + 1) hj (by omega)
  | succ d ih => exact lessS_trans (ih (by omega) (by omega)) (h (i + 1 + (d + 1)) hj (by omega))
/-- all ahead of k are less, all from k on are not -/
def Cut {α : Type} (f : α → ByteArray) (l : List α) (t : ByteArray) (k : Nat) : Prop := k ≤ l.length ∧ (∀ j (h : j < l.length), j < k → lessS (f l[j]) t = true) ∧ ∀ j (h : j < l.length), k ≤ j → lessS (f l[j]) t = false
/-- what the search by halves keeps -/
def Hs {α : Type} (f : α → ByteArray) (l : List α) (t : ByteArray) (lo hi : Nat) : Prop := lo ≤ hi ∧ hi ≤ l.length ∧ (∀ j (h : j < l.length), j < lo → lessS (f l[j]) t = true) ∧ ∀ j (h : j < l.length), hi ≤ j → lessS (f l[j]) t = false
def SeekPost {α : Type} (f : α → ByteArray) (l : List α) (t : ByteArray) (w : World) (e : Ending) (w' : World) : Prop :=
  ∃ (k : Nat) (b : Bool), e = .returned (.tuple #[.int .i64 k, .bool b]) ∧ Cut f l t k ∧ (b = true ↔ ∃ h : k < l.length, f (l[k]'h) = t) ∧ Below w.heap.size w w'
section
variable {α : Type} {f : α → ByteArray} {l : List α} {t : ByteArray} {lo hi h : Nat}
theorem Hs.start (f : α → ByteArray) (l : List α) (t : ByteArray) : Hs f l t 0 l.length := ⟨Nat.zero_le _, Nat.le_refl _, fun j _ h => by omega, fun j h h2 => by omega⟩
theorem Hs.up (hh : Hs f l t lo hi) (hs : SrtN f l) (h1 : lo ≤ h) (h2 : h < hi) (hl : h < l.length) (e : lessS (f l[h]) t = true) : Hs f l t (h + 1) hi := by
  obtain ⟨a, b, c, d⟩ := hh
  refine ⟨by omega, b, fun j hj hjl => ?_, d⟩
  rcases Nat.lt_or_eq_of_le (Nat.le_of_lt_succ hjl) with h3 | h3
  · exact lessS_trans (hs j h hj hl h3) e
  · subst h3; exact e
theorem Hs.down (hh : Hs f l t lo hi) (hs : SrtN f l) (h1 : lo ≤ h) (h2 : h < hi) (hl : h < l.length) (e : lessS (f l[h]) t = false) : Hs f l t lo h := by
  obtain ⟨a, b, c, d⟩ := hh
  refine ⟨h1, by omega, c, fun j hj hjl => ?_⟩
  rcases Nat.lt_or_eq_of_le hjl with h3 | h3
  · cases k : lessS (f l[j]) t
    · rfl
    · rw [lessS_trans (hs h j hl hj h3) k] at e; cases e
  · subst h3; exact e
theorem Hs.cut (hh : Hs f l t lo lo) : Cut f l t lo := ⟨hh.2.1, hh.2.2⟩
end

theorem putCmp_any (a t : ByteArray) (v0 : ByteArray) (w : World) :
    Calls Try.prog 87 #[.agg #[.string a, .string v0], .string t] w fun e w' => e = .returned (.int .i64 (cmpI a t)) ∧ Below w.heap.size w w' := by
  go_enter Try.func87, Try.ntmps87
  go_wp2_with fail
  refine (cmp_any a t _).mono ?_
  rintro _ _ ⟨rfl, rfl⟩
  go_wp2
  go_ret
  exact ⟨rfl, (Below.refl _ _).alloc (Nat.le_refl _) _⟩

set_option maxRecDepth 100000 in
set_option maxHeartbeats 1000000 in
theorem seekProp_any (A : Option Addr) (c : Nat) (t : ByteArray) (l : List AProp) (w : World) (F : Nat → Prop) (hF : ∀ b, F b → b < w.heap.size) (h : RowOf 2 EProp w F A l) (hs : SrtN AProp.name l) (hl : l.length ≤ 1125899906842624) :
    Calls Try.prog 86 #[.slice A l.length c, .string t, .func (.func 87) #[] #[]] w (SeekPost AProp.name l t w) := by
  go_enter Try.func86, Try.ntmps86
  go_wp2_with fail
  go_loopg [9, 10, 11] l.length (fun g s9 s10 _ wx => ∃ lo hi : Nat, s9 = .int .i64 lo ∧ s10 = .int .i64 hi ∧ g = hi - lo ∧ Hs AProp.name l t lo hi ∧ Below w.heap.size w wx)
  case atStart => exact ⟨0, l.length, rfl, rfl, rfl, Hs.start _ l t, Below.refl _ _⟩
  case round =>
    obtain ⟨lo, hi, rfl, rfl, rfl, hv, hb⟩ := hrel
    have hv1 := hv.1; have hv2 := hv.2.1
    have HV := Lib.hid hv; have HB := Lib.hid hb
    by_cases hlt : lo < hi
    · obtain ⟨m, hm⟩ : ∃ m, (lo + hi) / 2 = m := ⟨_, rfl⟩
      have hm1 : lo ≤ m := by omega
      have hm2 : m < hi := by omega
      have hml : m < l.length := by omega
      have hR := RowOf.keep EProp.stays (Keep.below hb hF) (F' := F) (fun _ h => h) h
      obtain ⟨b, off, rfl, hbF, d0, d1⟩ := prop_at hR hml
      have Hm := Lib.hid hm
      clear hR hv hb hm
      have hlt' : (lo : Int) < hi := by omega
      have hm' : ((lo : Int) + hi) / 2 = m := by have := Hm.out; omega
      have m1 : (0 : Int) ≤ m := by omega
      have m2 : (m : Int) < l.length := by omega
      have m3 : (m : Int) ≤ 1125899906842624 := by omega
      go_upto_region 5 with fail
      clear hm'
      go_wp2_with fail
      refine (putCmp_any _ _ _ _).mono ?_
      rintro _ w1 ⟨rfl, hb1⟩
      have HB1 := Lib.hid (HB.out.trans (hb1.mono HB.out.size))
      clear hb1 d0 d1
      by_cases hneg : cmpI l[m].name t < 0
      · have HU := Lib.hid (HV.out.up hs hm1 hm2 hml (cmpI_neg.1 hneg))
        go_wp2
        go_roundg (hi - (m + 1))
        case measure => omega
        case rel => exact ⟨m + 1, hi, by go_num, rfl, rfl, HU.out, HB1.out⟩
      · have HU := Lib.hid (HV.out.down hs hm1 hm2 hml (Bool.eq_false_iff.2 fun e => hneg (cmpI_neg.2 e)))
        go_wp2
        go_roundg (m - lo)
        case measure => omega
        case rel => exact ⟨lo, m, rfl, rfl, rfl, HU.out, HB1.out⟩
    · have e : hi = lo := by omega
      subst e
      have hlt' : ¬ (hi : Int) < hi := by omega
      by_cases hlo : hi < l.length
      · have hR := RowOf.keep EProp.stays (Keep.below hb hF) (F' := F) (fun _ h => h) h
        obtain ⟨b, off, rfl, hbF, d0, d1⟩ := prop_at hR hlo
        have m1 : (0 : Int) ≤ hi := by omega
        have m2 : (hi : Int) < l.length := by omega
        clear hR hv hb
        by_cases he : l[hi].name = t
        · have HZ := Lib.hid (cmpI_zero.2 he)
          have HA := Lib.hid (show ∃ h : hi < l.length, (l[hi]'h).name = t from ⟨hlo, he⟩)
          clear he
          go_wp2_with fail
          refine (putCmp_any _ _ _ _).mono ?_
          rintro _ w1 ⟨rfl, hb1⟩
          have HB1 := Lib.hid (HB.out.trans (hb1.mono HB.out.size))
          rw [HZ.out]
          clear hb1 d0 d1
          go_wp2
          go_ret2
          exact ⟨hi, true, rfl, HV.out.cut, ⟨fun _ => HA.out, fun _ => rfl⟩, HB1.out⟩
        · have HZ := Lib.hid (beq_eq_false_iff_ne.2 (fun e => he (cmpI_zero.1 e)))
          have HA := Lib.hid (show ¬ ∃ h : hi < l.length, (l[hi]'h).name = t from fun ⟨_, e⟩ => absurd e he)
          clear he
          go_wp2_with fail
          refine (putCmp_any _ _ _ _).mono ?_
          rintro _ w1 ⟨rfl, hb1⟩
          have HB1 := Lib.hid (HB.out.trans (hb1.mono HB.out.size))
          generalize hy : cmpI l[hi].name t = y at HZ ⊢
          have hy' := HZ.out
          clear hb1 d0 d1 hy
          go_wp2
          go_ret2
          exact ⟨hi, false, rfl, HV.out.cut, ⟨fun e => (by cases e), fun e => absurd e HA.out⟩, HB1.out⟩
      · have HA := Lib.hid (show ¬ ∃ h : hi < l.length, (l[hi]'h).name = t from fun ⟨h, _⟩ => absurd h hlo)
        have hlo' : decide ((hi : Int) < l.length) = false := decide_eq_false (by omega)
        clear hv hb
        go_wp2
        go_ret2
        exact ⟨hi, false, rfl, HV.out.cut, ⟨fun e => (by cases e), fun e => absurd e HA.out⟩, HB.out⟩

theorem aimCmp_any (a t : ByteArray) (v0 : Int) (w : World) :
    Calls Try.prog 93 #[.agg #[.string a, .int .i64 v0], .string t] w fun e w' => e = .returned (.int .i64 (cmpI a t)) ∧ Below w.heap.size w w' := by
  go_enter Try.func93, Try.ntmps93
  go_wp2_with fail
  refine (cmp_any a t _).mono ?_
  rintro _ _ ⟨rfl, rfl⟩
  go_wp2
  go_ret
  exact ⟨rfl, (Below.refl _ _).alloc (Nat.le_refl _) _⟩

set_option maxRecDepth 100000 in
set_option maxHeartbeats 1000000 in
theorem seekRef_any (A : Option Addr) (c : Nat) (t : ByteArray) (l : List ARef) (w : World) (F : Nat → Prop) (hF : ∀ b, F b → b < w.heap.size) (h : RowOf 2 ERef w F A l) (hs : SrtN ARef.role l) (hl : l.length ≤ 1125899906842624) :
    Calls Try.prog 92 #[.slice A l.length c, .string t, .func (.func 93) #[] #[]] w (SeekPost ARef.role l t w) := by
  go_enter Try.func92, Try.ntmps92
  go_wp2_with fail
  go_loopg [9, 10, 11] l.length (fun g s9 s10 _ wx => ∃ lo hi : Nat, s9 = .int .i64 lo ∧ s10 = .int .i64 hi ∧ g = hi - lo ∧ Hs ARef.role l t lo hi ∧ Below w.heap.size w wx)
  case atStart => exact ⟨0, l.length, rfl, rfl, rfl, Hs.start _ l t, Below.refl _ _⟩
  case round =>
    obtain ⟨lo, hi, rfl, rfl, rfl, hv, hb⟩ := hrel
    have hv1 := hv.1; have hv2 := hv.2.1
    have HV := Lib.hid hv; have HB := Lib.hid hb
    by_cases hlt : lo < hi
    · obtain ⟨m, hm⟩ : ∃ m, (lo + hi) / 2 = m := ⟨_, rfl⟩
      have hm1 : lo ≤ m := by omega
      have hm2 : m < hi := by omega
      have hml : m < l.length := by omega
      have hR := RowOf.keep ERef.stays (Keep.below hb hF) (F' := F) (fun _ h => h) h
      obtain ⟨b, off, rfl, hbF, d0, d1⟩ := ref_at hR hml
      have Hm := Lib.hid hm
      clear hR hv hb hm
      have hlt' : (lo : Int) < hi := by omega
      have hm' : ((lo : Int) + hi) / 2 = m := by have := Hm.out; omega
      have m1 : (0 : Int) ≤ m := by omega
      have m2 : (m : Int) < l.length := by omega
      have m3 : (m : Int) ≤ 1125899906842624 := by omega
      go_upto_region 5 with fail
      clear hm'
      go_wp2_with fail
      refine (aimCmp_any _ _ _ _).mono ?_
      rintro _ w1 ⟨rfl, hb1⟩
      have HB1 := Lib.hid (HB.out.trans (hb1.mono HB.out.size))
      clear hb1 d0 d1
      by_cases hneg : cmpI l[m].role t < 0
      · have HU := Lib.hid (HV.out.up hs hm1 hm2 hml (cmpI_neg.1 hneg))
        go_wp2
        go_roundg (hi - (m + 1))
        case measure => omega
        case rel => exact ⟨m + 1, hi, by go_num, rfl, rfl, HU.out, HB1.out⟩
      · have HU := Lib.hid (HV.out.down hs hm1 hm2 hml (Bool.eq_false_iff.2 fun e => hneg (cmpI_neg.2 e)))
        go_wp2
        go_roundg (m - lo)
        case measure => omega
        case rel => exact ⟨lo, m, rfl, rfl, rfl, HU.out, HB1.out⟩
    · have e : hi = lo := by omega
      subst e
      have hlt' : ¬ (hi : Int) < hi := by omega
      by_cases hlo : hi < l.length
      · have hR := RowOf.keep ERef.stays (Keep.below hb hF) (F' := F) (fun _ h => h) h
        obtain ⟨b, off, rfl, hbF, d0, d1⟩ := ref_at hR hlo
        have m1 : (0 : Int) ≤ hi := by omega
        have m2 : (hi : Int) < l.length := by omega
        clear hR hv hb
        by_cases he : l[hi].role = t
        · have HZ := Lib.hid (cmpI_zero.2 he)
          have HA := Lib.hid (show ∃ h : hi < l.length, (l[hi]'h).role = t from ⟨hlo, he⟩)
          clear he
          go_wp2_with fail
          refine (aimCmp_any _ _ _ _).mono ?_
          rintro _ w1 ⟨rfl, hb1⟩
          have HB1 := Lib.hid (HB.out.trans (hb1.mono HB.out.size))
          rw [HZ.out]
          clear hb1 d0 d1
          go_wp2
          go_ret2
          exact ⟨hi, true, rfl, HV.out.cut, ⟨fun _ => HA.out, fun _ => rfl⟩, HB1.out⟩
        · have HZ := Lib.hid (beq_eq_false_iff_ne.2 (fun e => he (cmpI_zero.1 e)))
          have HA := Lib.hid (show ¬ ∃ h : hi < l.length, (l[hi]'h).role = t from fun ⟨_, e⟩ => absurd e he)
          clear he
          go_wp2_with fail
          refine (aimCmp_any _ _ _ _).mono ?_
          rintro _ w1 ⟨rfl, hb1⟩
          have HB1 := Lib.hid (HB.out.trans (hb1.mono HB.out.size))
          generalize hy : cmpI l[hi].role t = y at HZ ⊢
          have hy' := HZ.out
          clear hb1 d0 d1 hy
          go_wp2
          go_ret2
          exact ⟨hi, false, rfl, HV.out.cut, ⟨fun e => (by cases e), fun e => absurd e HA.out⟩, HB1.out⟩
      · have HA := Lib.hid (show ¬ ∃ h : hi < l.length, (l[hi]'h).role = t from fun ⟨h, _⟩ => absurd h hlo)
        have hlo' : decide ((hi : Int) < l.length) = false := decide_eq_false (by omega)
        clear hv hb
        go_wp2
        go_ret2
        exact ⟨hi, false, rfl, HV.out.cut, ⟨fun e => (by cases e), fun e => absurd e HA.out⟩, HB.out⟩
end Go.Proofs.Ytmafhaadcjgcbaa
end
section
namespace Go.Proofs.Ytmafhaadcjgcbaa
open Go Go.RowKit

def eqT (a b : ByteArray) : Bool := a.toList == b.toList
/-- what is left behind a text's elements -/
def keepN {α : Type} (f : α → ByteArray) (l : List α) (t : ByteArray) : List α := l.filter (fun x => !eqT (f x) t)
/-- what DeleteFunc keeps -/
structure DelInv {α : Type} (f : α → ByteArray) (l : List α) (t : ByteArray) (C : List α) (i j : Nat) : Prop where
  len : C.length = l.length
  lt : i < j
  le : j ≤ l.length
  low : C.take i = keepN f (l.take j) t
  high : C.drop j = l.drop j
section
variable {α : Type} {f : α → ByteArray} {l C : List α} {t : ByteArray} {i j : Nat}
theorem DelInv.start {k : Nat} (hk : k < l.length) (hy : eqT (f l[k]) t = true) (hn : ∀ j (h : j < l.length), j < k → eqT (f l[j]) t = false) : DelInv f l t l k (k + 1) := by
  refine ⟨rfl, by omega, hk, ?_, rfl⟩
  unfold keepN
  rw [filter_take hk, hy]
  simp only [Bool.not_true, Bool.false_eq_true, if_false, List.append_nil]
  refine (List.filter_eq_self.2 fun x hx => ?_).symm
  obtain ⟨q, hq, rfl⟩ := List.getElem_of_mem hx
  rw [List.getElem_take, hn q (by rw [List.length_take] at hq; omega) (by rw [List.length_take] at hq; omega)]; rfl
theorem DelInv.at_ (h : DelInv f l t C i j) (hj : j < l.length) : ∃ h : j < C.length, C[j]'h = l[j] := by
  have e := congrArg (fun x => x[0]?) h.high
  simp only [List.getElem?_drop, Nat.add_zero] at e
  have hC : j < C.length := by rw [h.len]; exact hj
  rw [List.getElem?_eq_getElem hC, List.getElem?_eq_getElem hj] at e
  exact ⟨hC, by injection e⟩
theorem DelInv.skip (h : DelInv f l t C i j) (hj : j < l.length) (hy : eqT (f l[j]) t = true) : DelInv f l t C i (j + 1) := by
  refine ⟨h.len, by have := h.lt; omega, hj, ?_, ?_⟩
  · unfold keepN
    rw [filter_take hj, hy, h.low]
    simp [keepN]
  · have := congrArg (List.drop 1) h.high
    simpa [List.drop_drop] using this
theorem DelInv.keep (h : DelInv f l t C i j) (hj : j < l.length) (hy : eqT (f l[j]) t = false) : DelInv f l t (C.set i l[j]) (i + 1) (j + 1) := by
  have hl := h.len; have hlt := h.lt
  refine ⟨by simpa using hl, by omega, hj, ?_, ?_⟩
  · have hi : i < C.length := by omega
    rw [List.take_succ_eq_append_getElem (by simpa using hi), List.take_set_of_le (Nat.le_refl _), h.low, List.getElem_set_self]
    unfold keepN
    rw [filter_take hj, hy]
    simp
  · have := congrArg (List.drop 1) h.high
    rw [List.drop_set_of_lt (by omega)]
    simpa [List.drop_drop] using this
theorem DelInv.done (h : DelInv f l t C i l.length) : C.take i = keepN f l t := by have := h.low; rwa [List.take_length] at this
theorem DelInv.len_i (h : DelInv f l t C i l.length) : (keepN f l t).length = i := by rw [← h.done, List.length_take]; have := h.len; have := h.lt; omega
end
theorem grown_set {w w' : World} {g : Nat} (h : w.grownBy w' (some g)) (i : Nat) (u : Value) : w.grownBy (w'.setCell ⟨g, i, none⟩ u) (some g) :=
  ⟨h.os, h.tape, h.output, by simpa using h.size, fun k hk hn => (Below.heap_setCell _ _ _ _ (fun e => hn (by rw [e]))).trans (h.block k hk hn)⟩
theorem grown_below {w w' w'' : World} {row : Option Nat} (h : w.grownBy w' row) (hb : Below w'.heap.size w' w'') : w.grownBy w'' row :=
  ⟨hb.os.trans h.os, hb.tape.trans h.tape, hb.output.trans h.output, Nat.le_trans h.size hb.size, fun k hk hn => (hb.block k (Nat.lt_of_lt_of_le hk h.size)).trans (h.block k hk hn)⟩
/-- 'clear' on a part of a row of the call's own, its elements of more cells than one -/
theorem run_clear_rowK {P : Program} (w : World) (sT e ty : TypeId) (z : Value) (g o n c : Nat) (cur : Array Value) (t : TypeId) (hn : 0 < n)
    (ht : P.underlying sT = some (.slice e)) (hv : ∀ w, (zeroValue e).run P w = .ok z w) (hg : Blk w g t cur) (hfit : o + n * z.cells.size ≤ cur.size) (h1 : ∀ v ∈ (Builtin.zeroCells z.cells n).toList, v.oneCell' = true) :
    (Builtin.clear_ #[sT] ty #[.slice (some ⟨g, o, none⟩) n c]).run P w = .ok (.tuple #[]) (w.setRow g (lay cur o (Builtin.zeroCells z.cells n).toList)) := by
  have hst := run_storeCells_at P g o t (Builtin.zeroCells z.cells n).toList 0 cur w hg (by simpa [size_zeroCells] using hfit) h1
  simp only [Nat.add_zero] at hst
  obtain ⟨m, rfl⟩ : ∃ m, n = m + 1 := ⟨n - 1, by omega⟩
  simp [Builtin.clear_, run_underlying ht, hv, hst, lay]
theorem lay_low {cur : Array Value} {off : Nat} {cs : List Value} (h : off ≤ cur.size) : (lay cur off cs).toList.take off = cur.toList.take off := by
  rw [lay_list, List.append_assoc, List.take_append_of_le_length (by simp; omega), List.take_take, Nat.min_self]

theorem zero_one {z : Value} {n : Nat} (h : ∀ v ∈ z.cells.toList, v.oneCell' = true) : ∀ v ∈ (Builtin.zeroCells z.cells n).toList, v.oneCell' = true := by
  intro v hv
  unfold Builtin.zeroCells at hv
  rw [Array.toList_map, List.mem_map] at hv
  obtain ⟨i, hi, rfl⟩ := hv
  have hi' : i < n * z.cells.size := by simpa using hi
  have hp : 0 < z.cells.size := by
    rcases Nat.eq_zero_or_pos z.cells.size with h0 | h0
    · rw [h0] at hi'; omega
    · exact h0
  have hlt : i % z.cells.size < z.cells.size := Nat.mod_lt _ hp
  rw [getElem!_pos z.cells _ hlt]
  exact h _ (by simp)

end Go.Proofs.Ytmafhaadcjgcbaa
end
section
namespace Go.Proofs.Ytmafhaadcjgcbaa
open Go Go.RowKit

/-! ### A list in which a text's element is set -/
def cutK {α : Type} (f : α → ByteArray) (l : List α) (t : ByteArray) : Nat := (l.filter (fun x => lessS (f x) t)).length
def setK {α : Type} (f : α → ByteArray) (l : List α) (t : ByteArray) (y : α) : List α := l.take (cutK f l t) ++ y :: keepN f (l.drop (cutK f l t)) t
theorem eqT_yes {a b : ByteArray} : eqT a b = true ↔ a = b := ⟨fun h => toList_inj (eq_of_beq h), fun h => by rw [h]; exact beq_self_eq_true _⟩
theorem eqT_no {a b : ByteArray} : eqT a b = false ↔ a ≠ b := ⟨fun h e => (by rw [eqT_yes.2 e] at h; cases h), fun h => Bool.eq_false_iff.2 fun e => h (eqT_yes.1 e)⟩
section
variable {α : Type} {f : α → ByteArray} {l : List α} {t : ByteArray} {k : Nat} {y : α}
theorem Cut.eq (h : Cut f l t k) : cutK f l t = k := by
  obtain ⟨h1, h2, h3⟩ := h
  unfold cutK
  have e : l.filter (fun x => lessS (f x) t) = l.take k := by
    conv => lhs; rw [← List.take_append_drop k l, List.filter_append]
    have a : (l.take k).filter (fun x => lessS (f x) t) = l.take k := List.filter_eq_self.2 fun x hx => by
      obtain ⟨i, hi, rfl⟩ := List.getElem_of_mem hx
      rw [List.getElem_take]
      exact h2 i (by rw [List.length_take] at hi; omega) (by rw [List.length_take] at hi; omega)
    have b : (l.drop k).filter (fun x => lessS (f x) t) = [] := List.filter_eq_nil_iff.2 fun x hx => by
      obtain ⟨i, hi, rfl⟩ := List.getElem_of_mem hx
      rw [List.getElem_drop, h3 (k + i) (by rw [List.length_drop] at hi; omega) (by omega)]
      exact Bool.false_ne_true
    rw [a, b, List.append_nil]
  rw [e, List.length_take]; omega
theorem srtN_cut (h : SrtN f l) : Cut f l t (cutK f l t) := by
  -- there is a cut; then it is this one
  have : ∃ k, Cut f l t k := by
    have key : ∀ m, m ≤ l.length → (∀ j (hj : j < l.length), j < m → lessS (f l[j]) t = true) ∨ ∃ k, Cut f l t k := by
      intro m
      induction m with
      | zero => exact fun _ => .inl fun j _ h => absurd h (Nat.not_lt_zero _)
      | succ m ih =>
        intro hm
        rcases ih (by omega) with h1 | h1
        · cases e : lessS (f (l[m]'(by omega))) t
          · refine .inr ⟨m, by omega, h1, fun j hj hmj => ?_⟩
            rcases Nat.lt_or_eq_of_le hmj with h2 | h2
            · cases e2 : lessS (f l[j]) t
              · rfl
              · rw [lessS_trans (h m j (by omega) hj h2) e2] at e; cases e
            · subst h2; exact e
          · refine .inl fun j hj hjm => ?_
            rcases Nat.lt_or_eq_of_le (Nat.le_of_lt_succ hjm) with h2 | h2
            · exact h1 j hj h2
            · subst h2; exact e
        · exact .inr h1
    rcases key l.length (Nat.le_refl _) with h1 | h1
    · exact ⟨l.length, Nat.le_refl _, fun j hj _ => h1 j hj hj, fun j hj h2 => absurd hj (by omega)⟩
    · exact h1
  obtain ⟨k, hk⟩ := this
  rw [hk.eq]; exact hk
theorem setK_ins (h : SrtN f l) (hk : Cut f l t k) (hn : ¬ ∃ h : k < l.length, f (l[k]'h) = t) : insAt l k y = setK f l t y := by
  unfold setK insAt
  rw [hk.eq]
  congr 2
  refine (List.filter_eq_self.2 fun x hx => ?_).symm
  obtain ⟨i, hi, rfl⟩ := List.getElem_of_mem hx
  have hi2 : k + i < l.length := by rw [List.length_drop] at hi; omega
  rw [List.getElem_drop]
  have hne : f l[k + i] ≠ t := fun e => by
    rcases Nat.eq_zero_or_pos i with h0 | h0
    · subst h0; exact hn ⟨hi2, e⟩
    · have h1 := h k (k + i) (by omega) hi2 (by omega)
      rw [e, hk.2.2 k (by omega) (Nat.le_refl _)] at h1; cases h1
  rw [eqT_no.2 hne]; rfl
theorem setK_set (h : SrtN f l) (hk : Cut f l t k) (hlt : k < l.length) (he : f l[k] = t) : l.set k y = setK f l t y := by
  unfold setK
  rw [hk.eq, List.set_eq_take_append_cons_drop, if_pos hlt]
  congr 2
  rw [← List.getElem_cons_drop hlt]
  unfold keepN
  rw [List.filter_cons, eqT_yes.2 he]
  simp only [Bool.not_true, Bool.false_eq_true, if_false]
  refine (List.filter_eq_self.2 fun x hx => ?_).symm
  obtain ⟨i, hi, rfl⟩ := List.getElem_of_mem hx
  rw [List.getElem_drop]
  have hi2 : k + 1 + i < l.length := by rw [List.length_drop] at hi; omega
  have hne : f l[k + 1 + i] ≠ t := fun e => by
    have h1 := h k (k + 1 + i) hlt hi2 (by omega)
    rw [e, he, lessS_irr] at h1; cases h1
  rw [eqT_no.2 hne]; rfl
end
theorem insAt_at {α : Type} {l : List α} {k : Nat} (h : k ≤ l.length) (y : α) : (insAt l k y)[k]'(by rw [insAt_len h]; omega) = y := by
  unfold insAt
  rw [List.getElem_append_right (by rw [List.length_take]; omega)]
  simp [List.length_take, Nat.min_eq_left h]
theorem insAt_set {α : Type} {l : List α} {k : Nat} (h : k ≤ l.length) (y z : α) : (insAt l k y).set k z = insAt l k z := by
  unfold insAt
  rw [List.set_append_right _ _ (by rw [List.length_take]; omega), List.length_take, Nat.min_eq_left h, Nat.sub_self]; rfl
theorem less_of_ge {a b : ByteArray} (h : geS a b = false) : lessS a b = true := by rw [geS_less] at h; simpa using h
theorem props_srt {l : List AProp} (h : PropsOK l) : SrtN AProp.name l := srtN_of fun i hi h0 => less_of_ge ((h i hi).2.2 h0)
theorem refs_srt {nx : Int} {l : List ARef} (h : RefsOK nx l) : SrtN ARef.role l := srtN_of fun i hi h0 => less_of_ge ((h i hi).2.2.2 h0)

/-! ### What is answered -/
open Classical in
noncomputable def setE (m : AModel) (nm : ByteArray) (lg no : Prop) : Int :=
  if ¬ CheckM m then 29 else if wordA nm = false then 2 else if lg then 3 else if no then 20 else 0
section
variable {m : AModel} {nm : ByteArray} {lg no : Prop}
open Classical in
theorem setE_check (h : ¬ CheckM m) : setE m nm lg no = 29 := if_pos h
open Classical in
theorem setE_word (h : CheckM m) (hw : wordA nm = false) : setE m nm lg no = 2 := by unfold setE; rw [if_neg (fun e => e h), if_pos hw]
open Classical in
theorem setE_long (h : CheckM m) (hw : wordA nm = true) (hl : lg) : setE m nm lg no = 3 := by unfold setE; rw [if_neg (fun e => e h), if_neg (by simp [hw]), if_pos hl]
open Classical in
theorem setE_node (h : CheckM m) (hw : wordA nm = true) (hl : ¬ lg) (hn : no) : setE m nm lg no = 20 := by unfold setE; rw [if_neg (fun e => e h), if_neg (by simp [hw]), if_neg hl, if_pos hn]
open Classical in
theorem setE_ok (h : CheckM m) (hw : wordA nm = true) (hl : ¬ lg) (hn : ¬ no) : setE m nm lg no = 0 := by unfold setE; rw [if_neg (fun e => e h), if_neg (by simp [hw]), if_neg hl, if_neg hn]
end
def putN (nm val : ByteArray) (n : ANode) : ANode := { n with props := setK AProp.name n.props nm ⟨nm, val⟩ }
def aimN (nm : ByteArray) (tg : Int) (n : ANode) : ANode := { n with refs := setK ARef.role n.refs nm ⟨nm, tg⟩ }
/-- a model and an error as they are answered -/
def SetAs (w' : World) (base : Nat) (m : AModel) (id E : Int) (g : ANode → ANode) (v : Value) : Prop :=
  (E ≠ 0 ∧ v = .tuple #[.agg #[.int .i64 0, .slice none 0 0], .int .i64 E]) ∨
  (E = 0 ∧ ∃ vl l, v = .tuple #[.agg #[.int .i64 m.next, vl], .int .i64 0] ∧ OwnM w' base vl l ∧ ∃ j, ∃ hj : j < m.nodes.length, m.nodes[j].id = id ∧ l.map LN.n = m.nodes.set j (g m.nodes[j]))

/-! ### A node's list put anew, or written in -/
section
variable {w w' : World} {base g n cap : Nat} {v : Value} {l : List LN}
theorem OwnM.cnt (h : OwnM w base v l) {j : Nat} (hj : j < l.length) (b : Nat) : l[j].blocks.count (some b) ≤ 1 := by
  have h1 := h.dis b
  rw [List.count_cons] at h1
  have h2 := all_set_count hj ⟨l[j].n, .slice none 0 0, .slice none 0 0, .slice none 0 0⟩ (some b)
  have h4 : (LN.blocks ⟨l[j].n, .slice none 0 0, .slice none 0 0, .slice none 0 0⟩).count (some b) = 0 := by simp [LN.blocks, Value.ownBlock]
  omega
theorem OwnM.apart (h : OwnM w base v l) {i q : Nat} (hi : i < l.length) (hq : q < l.length) (hne : q ≠ i) {b : Nat} (hb : some b ∈ l[i].blocks) : some b ∉ l[q].blocks := by
  intro hb2
  have h1 := h.dis b
  rw [List.count_cons] at h1
  have key : ∀ (a c : Nat) (ha : a < l.length) (hc : c < l.length), a < c → some b ∈ l[a].blocks → some b ∈ l[c].blocks → 2 ≤ (allBlocks l).count (some b) := by
    intro a c ha hc hac m1 m2
    have e2 := (set_split hc l[c]).2
    have : (allBlocks l).count (some b) = (allBlocks (l.take c)).count (some b) + (l[c].blocks.count (some b) + (allBlocks (l.drop (c + 1))).count (some b)) := by
      conv => lhs; rw [e2]
      rw [all_append, all_cons, List.count_append, List.count_append]
    have q1 : 0 < (allBlocks (l.take c)).count (some b) := count_pos (mem_all (x := l[a]) (by
      rw [List.mem_take_iff_getElem]; exact ⟨a, by omega, rfl⟩) m1)
    have q2 := count_pos m2
    omega
  rcases Nat.lt_or_gt_of_ne hne with h3 | h3
  · have := key q i hq hi h3 hb2 hb; omega
  · have := key i q hi hq h3 hb hb2; omega
theorem OwnM.setProps (h : OwnM w base (.slice (some ⟨g, 0, none⟩) n cap) l) {j : Nat} (hj : j < l.length) {Y : LN} (hY : l[j] = Y) (ps : List AProp) (new : Value) (hg : w.grownBy w' Y.p.ownBlock) (hat : new.ownBlock = Y.p.ownBlock ∨ new.ownBlock = none ∨ ∃ b, new.ownBlock = some b ∧ w.heap.size ≤ b)
    (hown : w'.ownsRow base 85 2 new ps.length (ps.flatMap propCells)) : OwnM (w'.setCell ⟨g, j * 7 + 4, none⟩ new) base (.slice (some ⟨g, 0, none⟩) n cap) (l.set j ⟨{ Y.n with props := ps }, new, Y.k, Y.r⟩) := by
  have hYm : Y ∈ l := by rw [← hY]; exact List.getElem_mem hj
  have hc := h.cnt hj
  refine h.setList hj (j := 4) (by omega) _ Y.p new hg (by rw [hY]; simp [LN.blocks]) hat (by rw [hY]; rfl) (fun o => ?_) (fun hk => ?_) (fun b hb e => ?_)
  · rw [hY]; simp only [LN.blocks, List.count_cons, List.count_nil]; omega
  · rw [hY] at hk hc
    have hol := h.lists Y hYm
    refine ⟨hown, own_keep hol.k fun b e => hk b (by simp [LN.blocks, e]) ?_, own_keep hol.r fun b e => hk b (by simp [LN.blocks, e]) ?_⟩
    · intro e2
      have h3 := hc b
      have : 2 ≤ Y.blocks.count (some b) := by simp [LN.blocks, List.count_cons, e, ← e2]
      omega
    · intro e2
      have h3 := hc b
      have : 2 ≤ Y.blocks.count (some b) := by simp [LN.blocks, List.count_cons, e, ← e2]
      omega
  · subst e
    have hrow := h.row_ne hYm (b := b)
    simp only [LN.blocks, List.mem_cons, List.not_mem_nil, or_false] at hb hrow
    rcases hb with hb | hb | hb
    · rcases hat with e | e | ⟨b2, e, hb2⟩
      · exact hrow (.inl (hb.trans e)) rfl
      · rw [e] at hb; cases hb
      · have hbb : b = b2 := by have := hb.trans e; injection this
        have := h.row.lt b rfl
        omega
    · exact hrow (.inr (.inl hb)) rfl
    · exact hrow (.inr (.inr hb)) rfl
theorem OwnM.setRefs (h : OwnM w base (.slice (some ⟨g, 0, none⟩) n cap) l) {j : Nat} (hj : j < l.length) {Y : LN} (hY : l[j] = Y) (ps : List ARef) (new : Value) (hg : w.grownBy w' Y.r.ownBlock) (hat : new.ownBlock = Y.r.ownBlock ∨ new.ownBlock = none ∨ ∃ b, new.ownBlock = some b ∧ w.heap.size ≤ b)
    (hown : w'.ownsRow base 82 2 new ps.length (ps.flatMap refCells)) : OwnM (w'.setCell ⟨g, j * 7 + 6, none⟩ new) base (.slice (some ⟨g, 0, none⟩) n cap) (l.set j ⟨{ Y.n with refs := ps }, Y.p, Y.k, new⟩) := by
  have hYm : Y ∈ l := by rw [← hY]; exact List.getElem_mem hj
  have hc := h.cnt hj
  refine h.setList hj (j := 6) (by omega) _ Y.r new hg (by rw [hY]; simp [LN.blocks]) hat (by rw [hY]; rfl) (fun o => ?_) (fun hk => ?_) (fun b hb e => ?_)
  · rw [hY]; simp only [LN.blocks, List.count_cons, List.count_nil]; omega
  · rw [hY] at hk hc
    have hol := h.lists Y hYm
    refine ⟨own_keep hol.p fun b e => hk b (by simp [LN.blocks, e]) ?_, own_keep hol.k fun b e => hk b (by simp [LN.blocks, e]) ?_, hown⟩
    · intro e2
      have h3 := hc b
      have : 2 ≤ Y.blocks.count (some b) := by simp [LN.blocks, List.count_cons, e, ← e2]
      omega
    · intro e2
      have h3 := hc b
      have : 2 ≤ Y.blocks.count (some b) := by simp [LN.blocks, List.count_cons, e, ← e2]
      omega
  · subst e
    have hrow := h.row_ne hYm (b := b)
    simp only [LN.blocks, List.mem_cons, List.not_mem_nil, or_false] at hb hrow
    rcases hb with hb | hb | hb
    · exact hrow (.inl hb) rfl
    · exact hrow (.inr (.inl hb)) rfl
    · rcases hat with e | e | ⟨b2, e, hb2⟩
      · exact hrow (.inr (.inr (hb.trans e))) rfl
      · rw [e] at hb; cases hb
      · have hbb : b = b2 := by have := hb.trans e; injection this
        have := h.row.lt b rfl
        omega
theorem OwnM.setInProps (h : OwnM w base v l) {j : Nat} (hj : j < l.length) {Y : LN} (hY : l[j] = Y) {b cp : Nat} (hp : Y.p = .slice (some ⟨b, 0, none⟩) Y.n.props.length cp) {k : Nat} (hk : k < Y.n.props.length) {r : Nat} (hr : r < 2) (u : Value) (x : AProp) (hx : propCells x = (propCells Y.n.props[k]).set r u) :
    OwnM (w.setCell ⟨b, k * 2 + r, none⟩ u) base v (l.set j ⟨{ Y.n with props := Y.n.props.set k x }, Y.p, Y.k, Y.r⟩) := by
  have hYm : Y ∈ l := by rw [← hY]; exact List.getElem_mem hj
  have hbY : some b ∈ Y.blocks := by simp [LN.blocks, hp, Value.ownBlock]
  have hc := h.cnt hj b
  rw [hY] at hc
  have far : ∀ b2, b2 ≠ b → (w.setCell ⟨b, k * 2 + r, none⟩ u).heap[b2]? = w.heap[b2]? := fun b2 hb => Below.heap_setCell _ _ _ _ hb
  have hol := h.lists Y hYm
  have hblk : Y.p.ownBlock = some b := by rw [hp]; rfl
  refine ⟨?_, fun y hy => ?_, fun b2 => ?_⟩
  · have e : (l.set j ⟨{ Y.n with props := Y.n.props.set k x }, Y.p, Y.k, Y.r⟩).flatMap LN.cells = l.flatMap LN.cells := by
      obtain ⟨e1, e2⟩ := set_split hj ⟨{ Y.n with props := Y.n.props.set k x }, Y.p, Y.k, Y.r⟩
      rw [e1]
      conv => rhs; rw [e2]
      rw [List.flatMap_append, List.flatMap_append, List.flatMap_cons, List.flatMap_cons, hY]
      rfl
    rw [e, List.length_set]
    exact own_keep h.row fun b2 e2 => far b2 (fun e3 => h.row_ne hYm hbY (by rw [← e3]; exact e2.symm))
  · obtain ⟨q, hq, rfl⟩ := List.getElem_of_mem hy
    rw [List.length_set] at hq
    by_cases hqj : q = j
    · subst hqj
      rw [List.getElem_set_self]
      have two : ∀ {o : Option Nat} {b2 : Nat}, o = some b2 → b2 = b → [Y.p.ownBlock, o].count (some b) = 2 := fun e e2 => by rw [hblk, e, e2]; simp [List.count_cons]
      refine ⟨?_, ?_, ?_⟩
      · show (w.setCell ⟨b, k * 2 + r, none⟩ u).ownsRow base _ 2 Y.p _ _
        rw [List.length_set, flat_set propCells_len Y.n.props k r hk hr u x hx, hp]
        have hol2 := hol.p
        rw [hp] at hol2
        exact own_set hol2 (by omega) u
      · refine own_keep hol.k fun b2 e => far b2 (fun e2 => ?_)
        subst e2
        have e' : Y.k.ownBlock = some b2 := e
        have : 2 ≤ Y.blocks.count (some b2) := by simp [LN.blocks, List.count_cons, hblk, e']
        omega
      · refine own_keep hol.r fun b2 e => far b2 (fun e2 => ?_)
        subst e2
        have e' : Y.r.ownBlock = some b2 := e
        have : 2 ≤ Y.blocks.count (some b2) := by simp [LN.blocks, List.count_cons, hblk, e']
        omega
    · rw [List.getElem_set_ne (by omega)]
      exact (h.lists l[q] (List.getElem_mem hq)).keep fun b2 hb2 => far b2 (fun e3 => h.apart hj hq hqj (by rw [hY]; exact hbY) (by rw [← e3]; exact hb2))
  · have h1 := h.dis b2
    have h2 := all_set_count hj ⟨{ Y.n with props := Y.n.props.set k x }, Y.p, Y.k, Y.r⟩ (some b2)
    have h3 : (LN.blocks ⟨{ Y.n with props := Y.n.props.set k x }, Y.p, Y.k, Y.r⟩) = Y.blocks := rfl
    rw [hY, h3] at h2
    rw [List.count_cons] at h1 ⊢
    omega
theorem OwnM.setInRefs (h : OwnM w base v l) {j : Nat} (hj : j < l.length) {Y : LN} (hY : l[j] = Y) {b cp : Nat} (hp : Y.r = .slice (some ⟨b, 0, none⟩) Y.n.refs.length cp) {k : Nat} (hk : k < Y.n.refs.length) {r : Nat} (hr : r < 2) (u : Value) (x : ARef) (hx : refCells x = (refCells Y.n.refs[k]).set r u) :
    OwnM (w.setCell ⟨b, k * 2 + r, none⟩ u) base v (l.set j ⟨{ Y.n with refs := Y.n.refs.set k x }, Y.p, Y.k, Y.r⟩) := by
  have hYm : Y ∈ l := by rw [← hY]; exact List.getElem_mem hj
  have hbY : some b ∈ Y.blocks := by simp [LN.blocks, hp, Value.ownBlock]
  have hc := h.cnt hj b
  rw [hY] at hc
  have far : ∀ b2, b2 ≠ b → (w.setCell ⟨b, k * 2 + r, none⟩ u).heap[b2]? = w.heap[b2]? := fun b2 hb => Below.heap_setCell _ _ _ _ hb
  have hol := h.lists Y hYm
  have hblk : Y.r.ownBlock = some b := by rw [hp]; rfl
  refine ⟨?_, fun y hy => ?_, fun b2 => ?_⟩
  · have e : (l.set j ⟨{ Y.n with refs := Y.n.refs.set k x }, Y.p, Y.k, Y.r⟩).flatMap LN.cells = l.flatMap LN.cells := by
      obtain ⟨e1, e2⟩ := set_split hj ⟨{ Y.n with refs := Y.n.refs.set k x }, Y.p, Y.k, Y.r⟩
      rw [e1]
      conv => rhs; rw [e2]
      rw [List.flatMap_append, List.flatMap_append, List.flatMap_cons, List.flatMap_cons, hY]
      rfl
    rw [e, List.length_set]
    exact own_keep h.row fun b2 e2 => far b2 (fun e3 => h.row_ne hYm hbY (by rw [← e3]; exact e2.symm))
  · obtain ⟨q, hq, rfl⟩ := List.getElem_of_mem hy
    rw [List.length_set] at hq
    by_cases hqj : q = j
    · subst hqj
      rw [List.getElem_set_self]
      have two : ∀ {o : Option Nat} {b2 : Nat}, o = some b2 → b2 = b → [Y.r.ownBlock, o].count (some b) = 2 := fun e e2 => by rw [hblk, e, e2]; simp [List.count_cons]
      refine ⟨?_, ?_, ?_⟩
      · refine own_keep hol.p fun b2 e => far b2 (fun e2 => ?_)
        subst e2
        have e' : Y.p.ownBlock = some b2 := e
        have : 2 ≤ Y.blocks.count (some b2) := by simp [LN.blocks, List.count_cons, hblk, e']
        omega
      · refine own_keep hol.k fun b2 e => far b2 (fun e2 => ?_)
        subst e2
        have e' : Y.k.ownBlock = some b2 := e
        have : 2 ≤ Y.blocks.count (some b2) := by simp [LN.blocks, List.count_cons, hblk, e']
        omega
      · show (w.setCell ⟨b, k * 2 + r, none⟩ u).ownsRow base _ 2 Y.r _ _
        rw [List.length_set, flat_set refCells_len Y.n.refs k r hk hr u x hx, hp]
        have hol2 := hol.r
        rw [hp] at hol2
        exact own_set hol2 (by omega) u
    · rw [List.getElem_set_ne (by omega)]
      exact (h.lists l[q] (List.getElem_mem hq)).keep fun b2 hb2 => far b2 (fun e3 => h.apart hj hq hqj (by rw [hY]; exact hbY) (by rw [← e3]; exact hb2))
  · have h1 := h.dis b2
    have h2 := all_set_count hj ⟨{ Y.n with refs := Y.n.refs.set k x }, Y.p, Y.k, Y.r⟩ (some b2)
    have h3 : (LN.blocks ⟨{ Y.n with refs := Y.n.refs.set k x }, Y.p, Y.k, Y.r⟩) = Y.blocks := rfl
    rw [hY, h3] at h2
    rw [List.count_cons] at h1 ⊢
    omega
end
end Go.Proofs.Ytmafhaadcjgcbaa
end
