import Derived.Test.YtgcbnndbeoekgaaNameWalks
set_option linter.unusedSimpArgs false
set_option linter.unusedVariables false
namespace Go.Proofs.Ytgcbnndbeoekgaa
open Go Go.RowKit

/-- how far the digits have been gone through -/
def Digs (d : List UInt8) (k m : Nat) : Prop := k ≤ d.length ∧ (d.take k).all figureB = true ∧ m = digitsVal (d.take k)
theorem Digs.start (d : List UInt8) : Digs d 0 0 := ⟨Nat.zero_le _, rfl, rfl⟩
theorem Digs.lt {d : List UInt8} {k m : Nat} (h : Digs d k m) : m < 10 ^ k := by
  have := digitsVal_lt _ h.2.1
  rw [List.length_take_of_le h.1] at this
  rw [h.2.2]; exact this
theorem Digs.next {d : List UInt8} {k m : Nat} (h : Digs d k m) (hk : k < d.length) (hf : figureB d[k] = true) : Digs d (k + 1) (10 * m + (d[k].toNat - 48)) := by
  refine ⟨hk, ?_, ?_⟩
  · rw [List.take_succ_eq_append_getElem hk, List.all_append, h.2.1]; simpa using hf
  · rw [List.take_succ_eq_append_getElem hk, digitsVal_snoc, h.2.2]
theorem Digs.no {d : List UInt8} {k m : Nat} (_ : Digs d k m) (hk : k < d.length) (hf : figureB d[k] = false) : magB d = none := by
  have : d.all figureB = false := List.all_eq_false.2 ⟨d[k], List.getElem_mem _, by simpa using hf⟩
  simp [magB, this]
theorem Digs.done {d : List UInt8} {k m : Nat} (h : Digs d k m) (hk : ¬ k < d.length) (h0 : 0 < d.length) (h1 : d.length ≤ 19) : magB d = some m ∧ d.all figureB = true := by
  have hk' := h.1
  have e : d.take k = d := List.take_of_length_le (by omega)
  obtain ⟨_, h2, h3⟩ := h
  rw [e] at h2 h3
  exact ⟨by unfold magB; rw [if_neg (by rw [h2]; rintro (h | h | h) <;> first | omega | cases h), h3], h2⟩
theorem pow_le_18 {k m : Nat} (h : m < 10 ^ k) (hk : k ≤ 18) : m < 1000000000000000000 := Nat.lt_of_lt_of_le h (Nat.pow_le_pow_right (by omega) hk)
theorem pow_le_19 {k m : Nat} (h : m < 10 ^ k) (hk : k ≤ 19) : m < 10000000000000000000 := Nat.lt_of_lt_of_le h (Nat.pow_le_pow_right (by omega) hk)

/-- what Int tells -/
def IntPost (r : Option Int) (w : World) (e : Ending) (w' : World) : Prop := e = .returned (.tuple #[.int .i64 (r.getD 0), .int .i64 (if r = none then 2 else 0)]) ∧ w = w'

theorem int_long {l : List UInt8} (h45 : l.head? ≠ some 45) (h : 19 < l.length) : intB l = none := by
  unfold intB; rw [if_neg h45]
  have : magB l = none := by unfold magB; rw [if_pos (.inr (.inl h))]
  rw [this]; split <;> rfl
theorem int_zero {l : List UInt8} (h45 : l.head? ≠ some 45) (h : l.head? = some 48) (h1 : 1 < l.length) : intB l = none := by
  unfold intB; rw [if_neg h45, if_pos ⟨h, h1⟩]
theorem int_no {l : List UInt8} (h45 : l.head? ≠ some 45) (h : magB l = none) : intB l = none := by
  unfold intB; rw [if_neg h45, h]; split <;> rfl
theorem int_yes {l : List UInt8} {n : Nat} (h45 : l.head? ≠ some 45) (h1 : ¬ (l.head? = some 48 ∧ 1 < l.length)) (h : magB l = some n) (hn : n ≤ 9223372036854775807) : intB l = some (n : Int) := by
  unfold intB; rw [if_neg h45, if_neg h1, h]; show (if n ≤ _ then _ else _) = _; rw [if_pos hn]
theorem int_big {l : List UInt8} {n : Nat} (h45 : l.head? ≠ some 45) (h : magB l = some n) (hn : ¬ n ≤ 9223372036854775807) : intB l = none := by
  unfold intB; rw [if_neg h45, h]; split
  · rfl
  · show (if n ≤ _ then _ else _) = _; rw [if_neg hn]
theorem head_byte (s : ByteArray) (hp : 0 < s.size) : s.data.toList.head? = some s[0] := by
  have : s.data.toList = s[0] :: s.data.toList.tail := by
    cases h : s.data.toList with
    | nil => have : s.data.toList.length = s.size := rfl; rw [h] at this; simp at this; omega
    | cons c r => have : s[0] = s.data.toList[0]'(by rw [h]; simp) := rfl; simp [this, h]
  rw [this]; rfl
theorem byte_ne {c : UInt8} {n : Nat} (h : ((c.toNat : Int) == n) = false) (hn : n < 256) : c ≠ UInt8.ofNat n := by
  rintro rfl
  rw [beq_eq_false_iff_ne] at h
  exact h (by simp [Nat.mod_eq_of_lt hn])
theorem byte_eq {c : UInt8} {n : Nat} (h : ((c.toNat : Int) == n) = true) : c = UInt8.ofNat n := by
  rw [beq_iff_eq] at h
  have : c.toNat = n := by omega
  rw [← this]; simp

set_option maxRecDepth 100000 in
set_option maxHeartbeats 2000000 in
theorem refInt_plain (s : ByteArray) (w : World) (hs : s.size ≤ 9223372036854775807) (hp : 0 < s.size) (h45 : ((s[0].toNat : Int) == 45) = false) : Calls Try.prog 41 #[.string s] w (IntPost (intB s.data.toList) w) := by
  have ha := fun (x : Int) (t : List UInt8) (w : World) (ht : t.length ≤ 100) => among_any x ⟨t.toArray⟩ w (by show t.toArray.size ≤ _; simp; omega)
  have HA := Lib.hid ha; clear ha
  have hz : ((s.size : Int) == 0) = false := beq_eq_false_iff_ne.2 (by omega)
  have h45' := Lib.hid (show s.data.toList.head? ≠ some 45 by rw [head_byte s hp]; intro e; injection e with e; exact byte_ne (n := 45) h45 (by omega) e)
  by_cases h19 : (19 : Int) < s.size
  · have hr := Lib.hid (int_long h45'.out (show 19 < s.size by omega))
    go_enter Try.func41, Try.ntmps41
    go_wp2_with fail
    go_ret2
    rw [hr.out]; exact ⟨rfl, rfl⟩
  · by_cases h48 : ((s[0].toNat : Int) == 48) = true
    · have h48' := Lib.hid (show s.data.toList.head? = some 48 by rw [head_byte s hp, byte_eq (n := 48) h48]; rfl)
      by_cases h1 : (1 : Int) < s.size
      · have hr := Lib.hid (int_zero h45'.out h48'.out (show 1 < s.size by omega))
        go_enter Try.func41, Try.ntmps41
        go_wp2_with fail
        go_ret2
        rw [hr.out]; exact ⟨rfl, rfl⟩
      · have hh := Lib.hid (show ¬ (s.data.toList.head? = some 48 ∧ 1 < s.data.toList.length) from fun h => h1 (by have : s.data.toList.length = s.size := rfl; omega))
        go_enter Try.func41, Try.ntmps41
        go_wp2_with fail
        go_loop [7, 8] (fun m i => ∃ k n : Nat, i = .int .i64 k ∧ m = .int .u64 n ∧ Digs s.data.toList k n) (fun _ i => s.size - (intOf i).toNat)
        case atStart => exact ⟨0, 0, rfl, rfl, Digs.start _⟩
        case round =>
          obtain ⟨k, n, rfl, rfl, hd⟩ := hrel
          have htl : s.data.toList.length = s.size := rfl
          have hk := hd.1
          have hlt := hd.lt
          by_cases hkt : k < s.size
          · have hn18 := pow_le_18 hlt (by omega)
            clear hlt
            have hA := Lib.hid (among_figures s[k])
            have hr := byte_range s[k]
            by_cases hf : figureB s[k] = true
            · have hn := hd.next (by rw [htl]; exact hkt) hf
              have HF := Lib.hid hf
              have hf48 : (48 : Int) ≤ s[k].toNat ∧ (s[k].toNat : Int) ≤ 57 := by simpa [figureB, figureI] using hf
              clear hf
              obtain ⟨hf48, hf57⟩ := hf48
              go_wp2_with fail
              refine (HA.out _ figuresL _ (by decide)).mono ?_
              rintro e w' ⟨rfl, rfl⟩
              rw [hA.out, show figureI s[k].toNat = true from HF.out]
              go_wp2
              go_round
              case rel => exact ⟨k + 1, 10 * n + (s[k].toNat - 48), by go_num, by go_num, hn⟩
              case measure => simp [intOf] <;> omega
            · have hf' := Bool.eq_false_iff.2 hf
              have hno := Lib.hid (int_no h45'.out (hd.no (by rw [htl]; exact hkt) hf'))
              have HF := Lib.hid hf'; clear hf' hf
              go_wp2_with fail
              refine (HA.out _ figuresL _ (by decide)).mono ?_
              rintro e w' ⟨rfl, rfl⟩
              rw [hA.out, show figureI s[k].toNat = false from HF.out]
              go_wp2
              go_ret2
              rw [hno.out]
              exact ⟨rfl, rfl⟩
          · have hn19 := pow_le_19 hlt (by omega)
            clear hlt
            obtain ⟨hm, hall⟩ := hd.done (by rw [htl]; exact hkt) (by omega) (by omega)
            by_cases hb : n ≤ 9223372036854775807
            · have hyes := Lib.hid (int_yes h45'.out hh.out hm hb)
              clear hm hall
              go_wp2
              go_ret2
              rw [hyes.out]
              exact ⟨rfl, rfl⟩
            · have hbig := Lib.hid (int_big h45'.out hm hb)
              clear hm hall
              go_wp2
              go_ret2
              rw [hbig.out]
              exact ⟨rfl, rfl⟩
    · have h48 : ((s[0].toNat : Int) == 48) = false := Bool.eq_false_iff.2 h48
      have hh := Lib.hid (show ¬ (s.data.toList.head? = some 48 ∧ 1 < s.data.toList.length) from fun h => by
        have h2 := h.1; rw [head_byte s hp] at h2; injection h2 with h2; exact byte_ne (n := 48) h48 (by omega) h2)
      go_enter Try.func41, Try.ntmps41
      go_wp2_with fail
      go_loop [7, 8] (fun m i => ∃ k n : Nat, i = .int .i64 k ∧ m = .int .u64 n ∧ Digs s.data.toList k n) (fun _ i => s.size - (intOf i).toNat)
      case atStart => exact ⟨0, 0, rfl, rfl, Digs.start _⟩
      case round =>
        obtain ⟨k, n, rfl, rfl, hd⟩ := hrel
        have htl : s.data.toList.length = s.size := rfl
        have hk := hd.1
        have hlt := hd.lt
        by_cases hkt : k < s.size
        · have hn18 := pow_le_18 hlt (by omega)
          clear hlt
          have hA := Lib.hid (among_figures s[k])
          have hr := byte_range s[k]
          by_cases hf : figureB s[k] = true
          · have hn := hd.next (by rw [htl]; exact hkt) hf
            have HF := Lib.hid hf
            have hf48 : (48 : Int) ≤ s[k].toNat ∧ (s[k].toNat : Int) ≤ 57 := by simpa [figureB, figureI] using hf
            clear hf
            obtain ⟨hf48, hf57⟩ := hf48
            go_wp2_with fail
            refine (HA.out _ figuresL _ (by decide)).mono ?_
            rintro e w' ⟨rfl, rfl⟩
            rw [hA.out, show figureI s[k].toNat = true from HF.out]
            go_wp2
            go_round
            case rel => exact ⟨k + 1, 10 * n + (s[k].toNat - 48), by go_num, by go_num, hn⟩
            case measure => simp [intOf] <;> omega
          · have hf' := Bool.eq_false_iff.2 hf
            have hno := Lib.hid (int_no h45'.out (hd.no (by rw [htl]; exact hkt) hf'))
            have HF := Lib.hid hf'; clear hf' hf
            go_wp2_with fail
            refine (HA.out _ figuresL _ (by decide)).mono ?_
            rintro e w' ⟨rfl, rfl⟩
            rw [hA.out, show figureI s[k].toNat = false from HF.out]
            go_wp2
            go_ret2
            rw [hno.out]
            exact ⟨rfl, rfl⟩
        · have hn19 := pow_le_19 hlt (by omega)
          clear hlt
          obtain ⟨hm, hall⟩ := hd.done (by rw [htl]; exact hkt) (by omega) (by omega)
          by_cases hb : n ≤ 9223372036854775807
          · have hyes := Lib.hid (int_yes h45'.out hh.out hm hb)
            clear hm hall
            go_wp2
            go_ret2
            rw [hyes.out]
            exact ⟨rfl, rfl⟩
          · have hbig := Lib.hid (int_big h45'.out hm hb)
            clear hm hall
            go_wp2
            go_ret2
            rw [hbig.out]
            exact ⟨rfl, rfl⟩
end Go.Proofs.Ytgcbnndbeoekgaa
