import Derived.Test.YtpkapommekkbcaaDoorAWordRef
import Derived.Laws.IdiomStrings
set_option linter.unusedSimpArgs false
set_option linter.unusedVariables false
namespace Go.Proofs.YtpkapommekkbcaaDoor
open Go Go.RowKit

theorem bytesRow_at {s : ByteArray} {c k : Nat} (h : k < s.size) : (bytesRow s c)[k]? = some (.int .u8 s[k].toNat) := by
  unfold bytesRow
  have h1 : k < (s.data.map (fun b => Value.int .u8 b.toNat)).size := by simpa using h
  rw [Array.getElem?_append_left h1, Array.getElem?_eq_getElem h1]
  simp; rfl
theorem row_cell (w : World) (cs : Array Value) (e : TypeId) (f : Nat × Nat) (k : Nat) : (w.drew.alloc (.cells cs e f)).cell? ⟨w.heap.size, k, none⟩ = cs[k]? := by
  have h1 : (w.drew.alloc (.cells cs e f)).heap[w.heap.size]? = some (.cells cs e f) := by
    show (w.heap.push (.cells cs e f))[w.heap.size]? = _
    simp
  exact cell_of_row _ _ _ _ _ _ h1

def ByteRow (w : World) (g : Nat) (t : ByteArray) : Prop := ∀ k (h : k < t.size), w.cell? ⟨g, k, none⟩ = some (.int .u8 t[k].toNat)
theorem AllW.rightA {t : ByteArray} {k : Nat} (h : ∀ j (h : j < t.size), j < k → wordB t[j] = true) (hk : ¬ k < t.size) (h0 : 0 < t.size) (h1 : t.size ≤ 32) (h2 : letterI (t[0]'h0).toNat = true) : rightB t.data.toList = true :=
  rightB_of h0 h1 h2 fun i hi => h i hi (by have : t.data.toList.length = t.size := rfl; omega)
def AllWA (t : ByteArray) (k : Nat) : Prop := ∀ j (h : j < t.size), j < k → wordB t[j] = true
theorem AllWA.next {t : ByteArray} {k : Nat} (h : AllWA t k) (hk : k < t.size) (hw : wordB t[k] = true) : AllWA t (k + 1) := fun j hj hjk => by
  rcases Nat.lt_succ_iff_lt_or_eq.1 hjk with h' | h'
  · exact h j hj h'
  · subst h'; exact hw

set_option maxRecDepth 100000 in
set_option maxHeartbeats 1000000 in
theorem aWord_any (s : ByteArray) (hs : s.size ≤ 9223372036854775807) (w : World) : Calls Tryd.prog 46 #[.string s] w fun e w' => e = .returned (.bool (wordA s)) ∧ Below w.heap.size w w' := by
  have hst := stripS_size s
  have HW := Lib.hid (show wordA s = rightB (stripS s).data.toList by unfold wordA; rw [stripS_list])
  obtain ⟨t, ht⟩ : ∃ t, stripS s = t := ⟨_, rfl⟩
  have hcv := fun (w : World) => run_bytes_of_string (P := Tryd.prog) w 9 42 5 t Tryd.underlying9 Tryd.underlying42 Tryd.underlying5
  rw [ht] at hst HW
  have Ht := Lib.hid ht; clear ht
  go_enter Tryd.func46, Tryd.ntmps46
  go_wp2_with fail
  refine (trim_any s hs _).mono ?_
  rintro _ _ ⟨rfl, rfl⟩
  rw [Ht.out]
  by_cases h0 : t.size = 0
  · have E := Lib.hid (rightB_zero (t := t) h0)
    have hz : t.toList = [] := by rw [ByteArray.toList_eq]; exact List.eq_nil_of_length_eq_zero h0
    clear h0
    go_wp2
    go_ret
    exact ⟨by rw [HW.out, E.out]; rfl, Below.refl _ _⟩
  · have hp : 0 < t.size := by omega
    have hp' : (0 : Int) < t.size := by omega
    have hz : t.toList.isEmpty = false := by
      rw [ByteArray.toList_eq]
      cases hl : t.data.toList with
      | nil => have : t.data.toList.length = 0 := by rw [hl]; rfl
               exact absurd this h0
      | cons => rfl
    clear h0
    by_cases h1 : t.size ≤ 32
    · have h1' : (t.size : Int) ≤ 32 := by omega
      cases h2 : letterI t[0].toNat
      · have E := Lib.hid (rightB_head (l := t.data.toList) hp h2)
        go_wp2_with (go_at_call 58; refine (aletter_any _ _).mono ?_; rintro e w' ⟨rfl, rfl⟩)
        go_ret
        exact ⟨by rw [HW.out, E.out]; rfl, Below.refl _ _⟩
      · go_wp2_with (go_at_call 58; refine (aletter_any _ _).mono ?_; rintro e w' ⟨rfl, rfl⟩)
        have H2 := Lib.hid h2; clear h2
        go_loopg [4, 23] t.size (fun g _ i wx => ∃ k : Nat, i = .int .i64 k ∧ g = t.size - k ∧ k ≤ t.size ∧ Below w.heap.size w wx ∧ ByteRow wx w.heap.size t ∧ AllWA t k)
        case atStart => exact ⟨0, rfl, rfl, Nat.zero_le _, ((Below.refl _ _).drew).alloc (Nat.le_refl _) _, fun k hk => (row_cell _ _ _ _ _).trans (bytesRow_at hk), fun j hj h => absurd h (Nat.not_lt_zero _)⟩
        case round =>
          obtain ⟨k, rfl, rfl, hk, hb, hr, hall⟩ := hrel
          have HA := Lib.hid hall; have HB := Lib.hid hb; have HR := Lib.hid hr
          clear hall hb hr
          by_cases hlt : k < t.size
          · have hcell := HR.out k hlt
            have hlt' : (k : Int) < t.size := by omega
            by_cases hw : wordB t[k] = true
            · have HWk := Lib.hid hw
              have hd : letterI t[k].toNat = true ∨ (letterI t[k].toNat = false ∧ (48 : Int) ≤ t[k].toNat ∧ (t[k].toNat : Int) ≤ 57) ∨ (letterI t[k].toNat = false ∧ (57 : Int) < t[k].toNat ∧ ((t[k].toNat : Int) == 95) = true) := by
                unfold wordB wordI figureI at hw
                cases hl : letterI t[k].toNat with
                | true => exact .inl rfl
                | false =>
                  simp only [hl, Bool.false_or, Bool.or_eq_true, Bool.and_eq_true, decide_eq_true_eq] at hw
                  rcases hw with hw | hw
                  · exact .inr (.inl ⟨rfl, hw.1, hw.2⟩)
                  · exact .inr (.inr ⟨rfl, by omega, by simp; omega⟩)
              clear hw
              rcases hd with hd | ⟨hd, hd1, hd2⟩ | ⟨hd, hd1, hd2⟩
              · go_wp2_with (go_at_call 58; refine (aletter_any _ _).mono ?_; rintro e w' ⟨rfl, rfl⟩)
                go_roundg (t.size - (k + 1))
                case measure => omega
                case rel => exact ⟨k + 1, by go_num, rfl, by omega, HB.out, HR.out, HA.out.next hlt HWk.out⟩
              · go_wp2_with (go_at_call 58; refine (aletter_any _ _).mono ?_; rintro e w' ⟨rfl, rfl⟩)
                go_roundg (t.size - (k + 1))
                case measure => omega
                case rel => exact ⟨k + 1, by go_num, rfl, by omega, HB.out, HR.out, HA.out.next hlt HWk.out⟩
              · go_wp2_with (go_at_call 58; refine (aletter_any _ _).mono ?_; rintro e w' ⟨rfl, rfl⟩)
                go_roundg (t.size - (k + 1))
                case measure => omega
                case rel => exact ⟨k + 1, by go_num, rfl, by omega, HB.out, HR.out, HA.out.next hlt HWk.out⟩
            · have e : rightB t.data.toList = false := rightB_no (i := k) (by have : t.data.toList.length = t.size := rfl; omega) (Bool.eq_false_iff.2 hw)
              have E := Lib.hid e; clear e
              have hd : letterI t[k].toNat = false ∧ ¬ ((48 : Int) ≤ t[k].toNat ∧ (t[k].toNat : Int) ≤ 57) ∧ ¬ t[k].toNat = 95 := by
                unfold wordB wordI figureI at hw
                simp only [Bool.or_eq_true, Bool.and_eq_true, decide_eq_true_eq, not_or] at hw
                exact ⟨Bool.eq_false_iff.2 hw.1.1, hw.1.2, by omega⟩
              clear hw
              obtain ⟨hd, hd1, hd2⟩ := hd
              have hb : ((t[k].toNat : Int) == 95) = false := by simp; omega
              have hb' : ((t[k].toNat : Int) != 95) = true := by simp; omega
              by_cases hd3 : (t[k].toNat : Int) < 48
              · clear hd1 hd2
                go_wp2_with (go_at_call 58; refine (aletter_any _ _).mono ?_; rintro e w' ⟨rfl, rfl⟩)
                go_ret
                exact ⟨by rw [HW.out, E.out]; rfl, HB.out⟩
              · have hd4 : (57 : Int) < t[k].toNat := by omega
                clear hd1 hd2
                go_wp2_with (go_at_call 58; refine (aletter_any _ _).mono ?_; rintro e w' ⟨rfl, rfl⟩)
                go_ret
                exact ⟨by rw [HW.out, E.out]; rfl, HB.out⟩
          · have E := Lib.hid (AllW.rightA HA.out hlt hp h1 H2.out)
            have hlt' : ¬ (k : Int) < t.size := by omega
            go_wp2
            go_ret
            exact ⟨by rw [HW.out, E.out]; rfl, HB.out⟩
    · have h1' : (32 : Int) < t.size := by omega
      have E := Lib.hid (rightB_long (l := t.data.toList) (by have : t.data.toList.length = t.size := rfl; omega))
      go_wp2
      go_ret
      exact ⟨by rw [HW.out, E.out]; rfl, Below.refl _ _⟩
end Go.Proofs.YtpkapommekkbcaaDoor
