/- unify.Right -/
import Derived.Test.YtgcbnndbeoekgaaDoorRight0
set_option linter.unusedSimpArgs false
set_option linter.unusedVariables false
namespace Go.Proofs.YtgcbnndbeoekgaaDoor
open Go Go.RowKit

theorem right_is {w : World} {x : ByteArray} {r : Bool} (h : rightB x.data.toList = r) (c : Calls Tryd.prog 23 #[.string x] w fun e w' => e = .returned (.bool (rightB x.data.toList)) ∧ w = w') : Calls Tryd.prog 23 #[.string x] w fun e w' => e = .returned (.bool r) ∧ w = w' := by rw [← h]; exact c
theorem take_right {l : List TN} {i : Nat} (hi : i < l.length) (h : ∀ t ∈ l.take i, NodeR t) (h1 : NodeR l[i]) : ∀ t ∈ l.take (i + 1), NodeR t := by
  rw [List.take_succ_eq_append_getElem hi]
  intro t ht
  rcases List.mem_append.1 ht with ht | ht
  · exact h t ht
  · simp only [List.mem_cons, List.not_mem_nil, or_false] at ht; subst ht; exact h1
set_option maxRecDepth 100000 in
set_option maxHeartbeats 4000000 in
theorem uright_any (A : Option Addr) (c : Nat) (l : List TN) (w : World) (F : Nat → Prop) (hF : ∀ b, F b → b < w.heap.size) (hr : RowOf 3 ETN w F A l) (hlc : l.length ≤ c) (hc : c ≤ maxLen) (hz : ∀ t ∈ l, t.name.size ≤ 9223372036854775807) :
    Calls Tryd.prog 9 #[.agg #[.slice A l.length c]] w fun e w' => e = .returned (.int .i64 (rightI l)) ∧ Below w.heap.size w w' := by
  have HR := Lib.hid hr
  obtain ⟨r, hrr⟩ : ∃ r, rightI l = r := ⟨_, rfl⟩
  have HL : Hid (256 < l.length → r = 3) := Lib.hid (fun h => by rw [← hrr]; exact rightI_long h)
  have HB : Hid (¬ 256 < l.length → ¬ GoodN l → r = 2) := Lib.hid (fun h h2 => by rw [← hrr]; exact rightI_bad h h2)
  have HG : Hid (¬ 256 < l.length → GoodN l → r = 0) := Lib.hid (fun h h2 => by rw [← hrr]; exact rightI_good h h2)
  have HZ := Lib.hid hz
  have HOR : Hid (∀ w', Below w.heap.size w w' → 0 < l.length → Calls Tryd.prog 24 #[.slice A l.length c, .int .i64 ((0 : Nat) : Int)] w' fun e w2 => e = .returned (.int .i64 (ordI l 0)) ∧ w' = w2) := Lib.hid fun w' hb h0 => ordered_any l.length A c l 0 w' F (by omega) h0 hlc hc (hr.keep ETN.stays (Keep.below hb hF) (fun _ h => h))
  rw [hrr]
  clear hrr hr hz
  unfold maxLen at hc
  have hll : l.length ≤ 9223372036854775807 := by omega
  by_cases hg : 256 < l.length
  · have HX : Hid (r = 3) := Lib.hid (HL.out hg)
    have g1 : (256 : Int) < l.length := by omega
    go_enter Tryd.func9, Tryd.ntmps9
    go_wp2
    go_ret
    exact ⟨by rw [HX.out]; rfl, (Below.refl _ _).alloc (Nat.le_refl _) _⟩
  have g1 : ¬ (256 : Int) < l.length := by omega
  by_cases h0 : l.length = 0
  · have HX : Hid (r = 2) := Lib.hid (HB.out hg (by rw [List.eq_nil_of_length_eq_zero h0]; intro h; have := h.2; cases this))
    have e0 : ((l.length : Int) == 0) = true := by rw [h0]; rfl
    have H0 := Lib.hid h0
    clear h0
    go_enter Tryd.func9, Tryd.ntmps9
    go_wp2
    go_ret
    exact ⟨by rw [HX.out]; rfl, (Below.refl _ _).alloc (Nat.le_refl _) _⟩
  have e0 : ((l.length : Int) == 0) = false := beq_eq_false_iff_ne.2 (by omega)
  go_enter Tryd.func9, Tryd.ntmps9
  go_wp2
  go_loopg [17] l.length (fun g s17 wx => ∃ i : Nat, s17 = .int .i64 i ∧ g = l.length - i ∧ i ≤ l.length ∧ (∀ t ∈ l.take i, NodeR t) ∧ Below w.heap.size w wx ∧ Blk wx w.heap.size 24 #[.slice A l.length c])
  case atStart => exact ⟨0, rfl, rfl, Nat.zero_le _, by simp, (Below.refl _ _).alloc (Nat.le_refl _) _, Blk.new _ _ _⟩
  case round =>
    obtain ⟨i, rfl, rfl, hi, hall, hb, hx⟩ := hrel
    have HBW := Lib.hid hb; have HX := Lib.hid hx; have HALL := Lib.hid hall
    have hx0 := hx.cell 0
    simp at hx0
    have hlx := hx.lt
    clear hx hall
    have i0 : (0 : Int) ≤ i := by omega
    by_cases hlt : i < l.length
    · have hR := RowOf.keep ETN.stays (Keep.below hb hF) (F' := F) (fun _ h => h) HR.out
      obtain ⟨b, off, S, k, rfl, hbF, d0, d1, d2, hk1, hk2, hrow⟩ := nodes_at hR hlt
      have hlt' : (i : Int) < l.length := by omega
      have hnz := HZ.out _ (List.getElem_mem hlt)
      have HBAD : Hid (¬ NodeR l[i] → r = 2) := Lib.hid fun h => HB.out hg (bad_node hlt h)
      have HGOOD : Hid (NodeR l[i] → ∀ t ∈ l.take (i + 1), NodeR t) := Lib.hid fun h => take_right hlt HALL.out h
      obtain ⟨t, ht⟩ : ∃ t, l[i] = t := ⟨_, rfl⟩
      rw [ht] at d0 d1 d2 hk1 hrow hnz HBAD HGOOD
      clear ht hb hR hrow
      obtain ⟨x, y, la⟩ := t
      obtain ⟨n, hn⟩ : ∃ n, la.length = n := ⟨_, rfl⟩
      have HBAD2 : Hid (¬ ((1 ≤ x ∧ x ≤ 2147483647 ∧ y.size = 0 ∧ n = 0) ∨ (x = 0 ∧ rightB y.data.toList = true)) → r = 2) := Lib.hid (fun h => HBAD.out (fun hn2 => h (by rw [← hn]; exact hn2)))
      have HGOOD2 : Hid (((1 ≤ x ∧ x ≤ 2147483647 ∧ y.size = 0 ∧ n = 0) ∨ (x = 0 ∧ rightB y.data.toList = true)) → ∀ t ∈ l.take (i + 1), NodeR t) := Lib.hid (fun h => HGOOD.out (by rw [← hn] at h; exact h))
      simp only at d0 d1 d2 hk1 hnz
      rw [hn] at d2 hk1
      clear hn HBAD HGOOD
      unfold maxLen at hk2
      have n0 : (0 : Int) ≤ n := by omega
      by_cases h1 : (0 : Int) < x
      · by_cases h2 : x ≤ 2147483647
        · by_cases h3 : y.size = 0
          · obtain rfl := empty_of h3
            clear h3
            by_cases h4 : n = 0
            · subst h4
              have HZZ := Lib.hid (HGOOD2.out (by exact .inl ⟨by omega, h2, rfl, rfl⟩))
              clear HBAD2 HGOOD2
              go_wp2
              go_roundg (l.length - (i + 1))
              case measure => omega
              case rel => exact ⟨i + 1, by go_num, rfl, by omega, HZZ.out, HBW.out.alloc HBW.out.size _, HX.out.alloc _⟩
            · have e4 : ((n : Int) == 0) = false := by simp; exact h4
              have h4' : ¬ (n : Int) = 0 := by omega
              have e5 : (x != 0) = true := by simp; omega
              have HZZ : Hid (r = 2) := Lib.hid (HBAD2.out (by omega))
              clear HBAD2 HGOOD2
              go_wp2
              go_ret
              exact ⟨by rw [HZZ.out]; rfl, HBW.out.alloc HBW.out.size _⟩
          · have e3 := nonempty_is h3
            have e3' := nonempty_ne h3
            have e5 : (x != 0) = true := by simp; omega
            have HZZ : Hid (r = 2) := Lib.hid (HBAD2.out (by omega))
            clear HBAD2 HGOOD2
            go_wp2
            go_ret
            exact ⟨by rw [HZZ.out]; rfl, HBW.out.alloc HBW.out.size _⟩
        · have e5 : (x != 0) = true := by simp; omega
          have HZZ : Hid (r = 2) := Lib.hid (HBAD2.out (by omega))
          clear HBAD2 HGOOD2
          go_wp2
          go_ret
          exact ⟨by rw [HZZ.out]; rfl, HBW.out.alloc HBW.out.size _⟩
      · by_cases h5 : x = 0
        · subst h5
          cases hrb : rightB y.data.toList
          · have HRB := Lib.hid hrb
            have HZZ : Hid (r = 2) := Lib.hid (HBAD2.out (by rw [hrb]; simp))
            clear HBAD2 HGOOD2
            go_wp2_with (go_at_call 23; refine (right_is HRB.out (right_any _ _ hnz)).mono ?_; rintro e w' ⟨rfl, rfl⟩)
            go_ret
            exact ⟨by rw [HZZ.out]; rfl, HBW.out.alloc HBW.out.size _⟩
          · have HRB := Lib.hid hrb
            have HZZ := Lib.hid (HGOOD2.out (by exact .inr ⟨rfl, hrb⟩))
            clear HBAD2 HGOOD2
            go_wp2_with (go_at_call 23; refine (right_is HRB.out (right_any _ _ hnz)).mono ?_; rintro e w' ⟨rfl, rfl⟩)
            go_roundg (l.length - (i + 1))
            case measure => omega
            case rel => exact ⟨i + 1, by go_num, rfl, by omega, HZZ.out, HBW.out.alloc HBW.out.size _, HX.out.alloc _⟩
        · have e5 : (x != 0) = true := by simp; exact h5
          have HZZ : Hid (r = 2) := Lib.hid (HBAD2.out (by omega))
          clear HBAD2 HGOOD2
          go_wp2
          go_ret
          exact ⟨by rw [HZZ.out]; rfl, HBW.out.alloc HBW.out.size _⟩
    · have hia : i = l.length := by omega
      have HALL2 : Hid (∀ t ∈ l, NodeR t) := Lib.hid (by have := HALL.out; rw [hia, List.take_length] at this; exact this)
      have hlt' : ¬ (i : Int) < l.length := by omega
      have HC := HOR.out wr HBW.out (by omega)
      by_cases ho : ordN l 0 = some l.length
      · have HZZ : Hid (r = 0) := Lib.hid (HG.out hg ⟨HALL2.out, ho⟩)
        rw [ordI_some ho] at HC
        clear ho hb
        go_wp2_with (go_at_call 24; refine HC.mono ?_; rintro e w' ⟨rfl, rfl⟩)
        go_ret
        exact ⟨by rw [HZZ.out]; rfl, HBW.out⟩
      · have HZZ : Hid (r = 2) := Lib.hid (HB.out hg (bad_end ho))
        have hne : ordI l 0 ≠ (l.length : Int) := by
          intro e
          cases h : ordN l 0 with
          | none => rw [ordI_none h] at e; omega
          | some m => rw [ordI_some h] at e; exact ho (by rw [h]; congr 1; omega)
        have hne' : (ordI l 0 != (l.length : Int)) = true := by simp; exact hne
        clear ho hb hne
        go_wp2_with (go_at_call 24; refine HC.mono ?_; rintro e w' ⟨rfl, rfl⟩)
        go_ret
        exact ⟨by rw [HZZ.out]; rfl, HBW.out⟩
end Go.Proofs.YtgcbnndbeoekgaaDoor
