import Derived.Test.YtmafhaadcjgcbaaATellsA
namespace Go.Proofs.Ytmafhaadcjgcbaa
open Go Go.RowKit

/-- has one of a node's references that target? -/
def hasR (l : List ARef) (id : Int) : Bool := l.any (fun r => r.target == id)
theorem hasR_yes {l : List ARef} {id : Int} {i : Nat} (h : i < l.length) (e : l[i].target = id) : hasR l id = true :=
  List.any_eq_true.2 ⟨l[i], List.getElem_mem h, by simp [e]⟩
theorem hasR_no {l : List ARef} {id : Int} (h : ∀ i (h : i < l.length), l[i].target ≠ id) : hasR l id = false :=
  List.any_eq_false.2 fun r hr => by
    obtain ⟨i, hi, rfl⟩ := List.getElem_of_mem hr
    simpa using h i hi
def usrFn (g : Nat) : Value := .func (.func 78) #[] #[.pointer (some ⟨g, 0, none⟩)]

theorem usr1_any (role : ByteArray) (tg id : Int) (g : Nat) (w : World) (h : Blk w g 3 #[.int .i64 id]) :
    Calls Try.prog 78 #[.agg #[.string role, .int .i64 tg], .pointer (some ⟨g, 0, none⟩)] w fun e w' => e = .returned (.bool (tg == id)) ∧ Below w.heap.size w w' := by
  have HX := Lib.hid (h.alloc (.cells #[.string role, .int .i64 tg] 82))
  have c0 := HX.out.cell 0
  have hlt := h.lt
  simp at c0
  clear h
  go_enter Try.func78, Try.ntmps78
  go_wp2
  go_ret
  exact ⟨rfl, (Below.refl _ _).alloc (Nat.le_refl _) _⟩

set_option maxRecDepth 100000 in
set_option maxHeartbeats 1000000 in
theorem idxRefs_any (S : Option Addr) (c : Nat) (l : List ARef) (id : Int) (g : Nat) (w : World) (F : Nat → Prop) (hF : ∀ b, F b → b < w.heap.size) (h : RowOf 2 ERef w F S l) (hg : Blk w g 3 #[.int .i64 id]) (hl : l.length ≤ 9223372036854775807) :
    Calls Try.prog 117 #[.slice S l.length c, usrFn g] w fun e w' => ∃ n : Int, e = .returned (.int .i64 n) ∧ decide (0 ≤ n) = hasR l id ∧ Below w.heap.size w w' := by
  have HG := Lib.hid hg
  have hglt := hg.lt
  clear hg
  unfold usrFn
  go_enter Try.func117, Try.ntmps117
  go_wp2_with fail
  go_loopg [5, 8] l.length (fun n s5 s8 wx => ∃ i : Nat, s8 = .int .i64 i ∧ n = l.length - i ∧ i ≤ l.length ∧ (∀ j (h : j < l.length), j < i → l[j].target ≠ id) ∧ Below w.heap.size w wx)
  case atStart => exact ⟨0, rfl, rfl, Nat.zero_le _, fun j _ h => absurd h (Nat.not_lt_zero _), Below.refl _ _⟩
  case round =>
    obtain ⟨i, rfl, rfl, hil, hno, hb⟩ := hrel
    have HB := Lib.hid hb; have HNO := Lib.hid hno
    by_cases hlt : i < l.length
    · have hlt' : (i : Int) < l.length := by omega
      have i0 : (0 : Int) ≤ i := by omega
      obtain ⟨b, off, rfl, hbF, d0, d1⟩ := ref_at (RowOf.keep ERef.stays (Keep.below hb hF) (F' := F) (fun _ h => h) h) hlt
      clear hb hno
      go_upto_region 4 with fail
      go_wp2_with fail
      refine (usr1_any _ _ id g _ (HG.out.below HB.out hglt)).mono ?_
      rintro _ w1 ⟨rfl, hb1⟩
      have HB1 := Lib.hid (HB.out.trans (hb1.mono HB.out.size))
      clear hb1 d0 d1
      by_cases he : l[i].target = id
      · have HY := Lib.hid (hasR_yes hlt he)
        have he' : (l[i].target == id) = true := by simp [he]
        clear he
        rw [he']
        clear he'
        go_wp2
        go_ret
        exact ⟨_, rfl, by rw [HY.out]; simp, HB1.out⟩
      · have he' : (l[i].target == id) = false := by simp [he]
        have HN := Lib.hid he
        clear he
        rw [he']
        clear he'
        go_wp2
        go_roundg (l.length - (i + 1))
        case measure => omega
        case rel => exact ⟨i + 1, by go_num, rfl, by omega, fun j hj hji => by
          rcases Nat.lt_succ_iff_lt_or_eq.1 hji with h1 | h1
          · exact HNO.out j hj h1
          · subst h1; exact HN.out, HB1.out⟩
    · have hlt' : ¬ (i : Int) < l.length := by omega
      have HN := Lib.hid (hasR_no (fun j hj => HNO.out j hj (by omega)))
      clear hno hb
      go_wp2
      go_ret
      exact ⟨_, rfl, by rw [HN.out]; simp, HB.out⟩

set_option maxRecDepth 100000 in
set_option maxHeartbeats 1000000 in
theorem hasRefs_any (S : Option Addr) (c : Nat) (l : List ARef) (id : Int) (g : Nat) (w : World) (F : Nat → Prop) (hF : ∀ b, F b → b < w.heap.size) (h : RowOf 2 ERef w F S l) (hg : Blk w g 3 #[.int .i64 id]) (hl : l.length ≤ 9223372036854775807) :
    Calls Try.prog 77 #[.slice S l.length c, usrFn g] w fun e w' => e = .returned (.bool (hasR l id)) ∧ Below w.heap.size w w' := by
  have HC := Lib.hid (idxRefs_any S c l id g w F hF h hg hl)
  clear h hg hF
  go_enter Try.func77, Try.ntmps77
  go_wp2_with fail
  refine HC.out.mono ?_
  rintro _ w1 ⟨n, rfl, hn, hb⟩
  have HB := Lib.hid hb; have HN := Lib.hid hn
  clear hn hb
  go_wp2
  go_ret
  exact ⟨by rw [← HN.out]; rfl, HB.out⟩
theorem OwnI.row {w : World} {base : Nat} {A : Option Addr} {n c : Nat} {l : List Int} (h : OwnI w base (.slice A n c) l) : RowOf 1 EInt w (fun b => b < w.heap.size) A l ∧ c ≤ 9223372036854775807 := by
  obtain ⟨A', c', e, _, h3, h4⟩ := h.isRow (F := fun b => b < w.heap.size) (fun b _ h => h)
  injection e with e1 _ e2
  subst e1; subst e2
  unfold maxLen at h3
  exact ⟨h4, h3⟩
end Go.Proofs.Ytmafhaadcjgcbaa
