import Derived.Test.YtgcbnndbeoekgaaInt
set_option linter.unusedSimpArgs false
set_option linter.unusedVariables false
namespace Go.Proofs.Ytgcbnndbeoekgaa
open Go Go.RowKit

theorem intn_empty {l : List UInt8} (h45 : l.head? = some 45) (h : l.tail = []) : intB l = none := by
  unfold intB; rw [if_pos h45, h]; rfl
theorem intn_long {l : List UInt8} (h45 : l.head? = some 45) (h : 19 < l.tail.length) : intB l = none := by
  unfold intB; rw [if_pos h45]
  have : magB l.tail = none := by unfold magB; rw [if_pos (.inr (.inl h))]
  rw [this]; split <;> rfl
theorem intn_zero {l : List UInt8} (h45 : l.head? = some 45) (h : l.tail.head? = some 48) : intB l = none := by
  unfold intB; rw [if_pos h45, if_pos h]
theorem intn_no {l t : List UInt8} (h45 : l.head? = some 45) (ht : l.tail = t) (h : magB t = none) : intB l = none := by
  unfold intB; rw [if_pos h45, ht, h]; split <;> rfl
theorem intn_yes {l t : List UInt8} {n : Nat} (h45 : l.head? = some 45) (ht : l.tail = t) (h1 : t.head? ≠ some 48) (h : magB t = some n) (hn : n ≤ 9223372036854775808) : intB l = some (-(n : Int)) := by
  unfold intB; rw [if_pos h45, ht, if_neg h1, h]; show (if n ≤ _ then _ else _) = _; rw [if_pos hn]
theorem intn_big {l t : List UInt8} {n : Nat} (h45 : l.head? = some 45) (ht : l.tail = t) (h : magB t = some n) (hn : ¬ n ≤ 9223372036854775808) : intB l = none := by
  unfold intB; rw [if_pos h45, ht, h]; split
  · rfl
  · show (if n ≤ _ then _ else _) = _; rw [if_neg hn]
theorem tail_extract (s : ByteArray) : s.data.toList.tail = (s.extract 1 s.size).data.toList := by
  rw [ByteArray.data_extract, Array.toList_extract]
  have : s.data.toList.length = s.size := rfl
  rw [List.extract_eq_take_drop, List.take_of_length_le (by simp), List.drop_one]

set_option maxRecDepth 100000 in
set_option maxHeartbeats 2000000 in
theorem refInt_below (s : ByteArray) (w : World) (hs : s.size ≤ 9223372036854775807) (hp : 0 < s.size) (h45 : ((s[0].toNat : Int) == 45) = true) : Calls Try.prog 41 #[.string s] w (IntPost (intB s.data.toList) w) := by
  have ha := fun (x : Int) (t : List UInt8) (w : World) (ht : t.length ≤ 100) => among_any x ⟨t.toArray⟩ w (by show t.toArray.size ≤ _; simp; omega)
  have HA := Lib.hid ha; clear ha
  have h45' := Lib.hid (show s.data.toList.head? = some 45 by rw [head_byte s hp, byte_eq (n := 45) h45]; rfl)
  have hz : ((s.size : Int) == 0) = false := beq_eq_false_iff_ne.2 (by omega)
  obtain ⟨t, ht⟩ : ∃ t, s.extract 1 s.size = t := ⟨_, rfl⟩
  have hTS := Lib.hid (show t.size = s.size - 1 by rw [← ht]; simp [ByteArray.size_extract])
  have hTL2 := Lib.hid (show t.data.toList.length = s.size - 1 from hTS.out)
  have hTL := Lib.hid (show s.data.toList.tail = t.data.toList by rw [tail_extract, ht])
  by_cases h1 : s.size = 1
  · have hr := Lib.hid (intn_empty h45'.out (by rw [hTL.out]; exact List.eq_nil_of_length_eq_zero (by rw [hTL2.out]; omega)))
    have hs1 : ((t.size : Int) == 0) = true := beq_iff_eq.2 (by have := hTS.out; omega)
    go_enter Try.func41, Try.ntmps41
    go_wp2_with fail
    go_ret2
    rw [hr.out]; exact ⟨rfl, rfl⟩
  · by_cases h19 : 19 < s.size - 1
    · have hr := Lib.hid (intn_long h45'.out (by rw [hTL.out, hTL2.out]; omega))
      have hs1 : (19 : Int) < t.size := by have := hTS.out; omega
      have hs0 : ((t.size : Int) == 0) = false := beq_eq_false_iff_ne.2 (by omega)
      go_enter Try.func41, Try.ntmps41
      go_wp2_with fail
      go_ret2
      rw [hr.out]; exact ⟨rfl, rfl⟩
    · have hp2 : 0 < t.size := by rw [hTS.out]; omega
      have h19' : (t.size : Int) ≤ 19 := by have := hTS.out; omega
      have hs0 : ((t.size : Int) == 0) = false := beq_eq_false_iff_ne.2 (by omega)
      by_cases h48 : (((t[0]'hp2).toNat : Int) == 48) = true
      · have hr := Lib.hid (intn_zero h45'.out (by rw [hTL.out, head_byte _ hp2, byte_eq (n := 48) h48]; rfl))
        go_enter Try.func41, Try.ntmps41
        go_wp2_with fail
        go_ret2
        rw [hr.out]; exact ⟨rfl, rfl⟩
      · replace h48 := Bool.eq_false_iff.2 h48
        have hh := Lib.hid (show t.data.toList.head? ≠ some 48 by
          rw [head_byte _ hp2]; intro e; injection e with e; exact byte_ne (n := 48) h48 (by omega) e)
        have hpos : ∀ n : Nat, magB t.data.toList = some n → t.data.toList.all figureB = true → 1 ≤ n := by
          intro n hm ha
          have : n = digitsVal t.data.toList := by
            unfold magB at hm; rw [if_neg (by rw [ha]; have h := hTL2.out; rintro (h | h | h) <;> first | omega | cases h)] at hm; cases hm; rfl
          rw [this]; exact digitsVal_head _ ha (by intro e; have h := hTL2.out; rw [e] at h; simp at h; omega) hh.out
        have HPOS := Lib.hid hpos
        clear hpos
        go_enter Try.func41, Try.ntmps41
        go_wp2_with fail
        go_loop [7, 8] (fun m i => ∃ k n : Nat, i = .int .i64 k ∧ m = .int .u64 n ∧ Digs t.data.toList k n) (fun _ i => t.size - (intOf i).toNat)
        case atStart => exact ⟨0, 0, rfl, rfl, Digs.start _⟩
        case round =>
          obtain ⟨k, n, rfl, rfl, hd⟩ := hrel
          have htl : t.data.toList.length = t.size := rfl
          have hk := hd.1
          have hlt := hd.lt
          by_cases hkt : k < t.size
          · have hn18 := pow_le_18 hlt (by omega)
            clear hlt
            have hA := Lib.hid (among_figures t[k])
            have hr := byte_range t[k]
            by_cases hf : figureB t[k] = true
            · have hn := hd.next (by rw [htl]; exact hkt) hf
              have HF := Lib.hid hf
              have hf48 : (48 : Int) ≤ t[k].toNat ∧ (t[k].toNat : Int) ≤ 57 := by simpa [figureB, figureI] using hf
              clear hf
              obtain ⟨hf48, hf57⟩ := hf48
              go_wp2_with fail
              refine (HA.out _ figuresL _ (by decide)).mono ?_
              rintro e w' ⟨rfl, rfl⟩
              rw [hA.out, show figureI t[k].toNat = true from HF.out]
              go_wp2
              go_round
              case rel => exact ⟨k + 1, 10 * n + (t[k].toNat - 48), by go_num, by go_num, hn⟩
              case measure => simp [intOf] <;> omega
            · have hf' := Bool.eq_false_iff.2 hf
              have hno := Lib.hid (intn_no h45'.out hTL.out (hd.no (by rw [htl]; exact hkt) hf'))
              have HF := Lib.hid hf'; clear hf' hf
              go_wp2_with fail
              refine (HA.out _ figuresL _ (by decide)).mono ?_
              rintro e w' ⟨rfl, rfl⟩
              rw [hA.out, show figureI t[k].toNat = false from HF.out]
              go_wp2
              go_ret2
              rw [hno.out]
              exact ⟨rfl, rfl⟩
          · have hn19 := pow_le_19 hlt (by omega)
            clear hlt
            obtain ⟨hm, hall⟩ := hd.done (by rw [htl]; exact hkt) (by omega) (by omega)
            by_cases hb : n ≤ 9223372036854775808
            · have hyes := Lib.hid (intn_yes h45'.out hTL.out hh.out hm hb)
              have hn1 : 1 ≤ n := HPOS.out n hm hall
              clear hm hall
              go_wp2
              go_ret2
              rw [hyes.out]
              exact ⟨by simp [IntKind.wrap_i64]; omega, rfl⟩
            · have hbig := Lib.hid (intn_big h45'.out hTL.out hm hb)
              clear hm hall
              go_wp2
              go_ret2
              rw [hbig.out]
              exact ⟨rfl, rfl⟩
end Go.Proofs.Ytgcbnndbeoekgaa
