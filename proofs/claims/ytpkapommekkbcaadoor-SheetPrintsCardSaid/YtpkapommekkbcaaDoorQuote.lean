/- a text in quotes: names.Quote and the document's -/
import Derived.Test.YtpkapommekkbcaaDoorSheetP
import Derived.Test.YtpkapommekkbcaaDoorBuf
import Derived.Test.YtpkapommekkbcaaDoorRegY
set_option linter.unusedSimpArgs false
set_option linter.unusedVariables false
namespace Go.Proofs.YtpkapommekkbcaaDoor
open Go Go.RowKit

theorem byte_info3 : (Tryd.prog.info? 5).map (fun i => (i.zero, i.size, i.bytes)) = some (some (.int .u8 0), 1, 1) := by kernel_rfl
def hiddenI (x : Int) : Bool := decide (x ≠ 10 ∧ (x < 32 ∨ 126 < x))
theorem hidden_any (x : Int) (w : World) : Calls Tryd.prog 36 #[.int .u8 x] w fun e w' => e = .returned (.bool (hiddenI x)) ∧ w = w' := by
  by_cases h1 : x = 10
  · have e : hiddenI x = false := by simp [hiddenI, h1]
    rw [e]
    subst h1
    go_enter Tryd.func36, Tryd.ntmps36
    go_wp2; go_ret; exact ⟨by simp, rfl⟩
  · have g1 : (x != 10) = true := by simp; exact h1
    by_cases h2 : x < 32
    · have e : hiddenI x = true := by simp [hiddenI, h1, h2]
      rw [e]
      clear h1
      go_enter Tryd.func36, Tryd.ntmps36
      go_wp2; go_ret; exact ⟨by simp, rfl⟩
    · by_cases h3 : 126 < x
      · have e : hiddenI x = true := by simp [hiddenI, h1, h3]
        rw [e]
        clear h1
        go_enter Tryd.func36, Tryd.ntmps36
        go_wp2; go_ret; exact ⟨by simp, rfl⟩
      · have e : hiddenI x = false := by simp [hiddenI, h1, h2, h3]
        rw [e]
        clear h1
        go_enter Tryd.func36, Tryd.ntmps36
        go_wp2; go_ret; exact ⟨by simp, rfl⟩
theorem form_hid {c : UInt8} (h : hiddenI c.toNat = true) : formB c = [92, 120, hexB (c.toNat / 16), hexB (c.toNat % 16)] := by
  simp only [hiddenI, decide_eq_true_eq] at h
  unfold formB
  rw [if_neg (fun e => h.1 (by rw [e]; rfl)), if_neg (by omega)]
theorem form_plain {c : UInt8} (h : hiddenI c.toNat = false) (h1 : (c.toNat : Int) ≠ 10) (h2 : (c.toNat : Int) ≠ 34) (h3 : (c.toNat : Int) ≠ 92) : formB c = [c] := by
  simp only [hiddenI, decide_eq_false_iff_not] at h
  unfold formB
  rw [if_neg (fun e => h1 (by rw [e]; rfl)), if_pos (by omega), if_neg]
  rintro (e | e)
  · exact h2 (by rw [e]; rfl)
  · exact h3 (by rw [e]; rfl)
/-- the forms of the first bytes, behind the quote -/
def quoTo (s : ByteArray) (k : Nat) : List UInt8 := 34 :: (s.data.toList.take k).flatMap formB
theorem quoTo_next {s : ByteArray} {k : Nat} (hk : k < s.size) : quoTo s (k + 1) = quoTo s k ++ formB s[k] := by
  unfold quoTo
  have hk' : k < s.data.toList.length := hk
  rw [List.take_succ_eq_append_getElem hk', List.flatMap_append, List.flatMap_cons, List.flatMap_nil, List.append_nil]
  rfl
theorem quoTo_all (s : ByteArray) : quoTo s s.size ++ [34] = quoteL s.data.toList := by
  unfold quoTo quoteL
  rw [show s.data.toList.take s.size = s.data.toList from List.take_of_length_le (Nat.le_of_eq rfl)]
  rfl
theorem quoTo_len (s : ByteArray) (k : Nat) : (quoTo s k).length ≤ 4 * s.size + 1 := by
  unfold quoTo
  have h1 := forms_len (s.data.toList.take k)
  have h2 : (s.data.toList.take k).length ≤ s.size := by rw [List.length_take]; exact Nat.min_le_right _ _
  rw [List.length_cons]
  omega
theorem hexes_at : ∀ (d : Nat) (h : d < 16), ((⟨#[48, 49, 50, 51, 52, 53, 54, 55, 56, 57, 97, 98, 99, 100, 101, 102]⟩ : ByteArray)[d]'h) = hexB d := by decide +kernel
theorem hexes_of (n : Nat) (x : Int) (e : x = n) (h : n < 16) : ((⟨#[48, 49, 50, 51, 52, 53, 54, 55, 56, 57, 97, 98, 99, 100, 101, 102]⟩ : ByteArray)[x.toNat]'(by subst e; exact h)) = hexB n := by
  subst e
  exact hexes_at n h
theorem and15' : ∀ c : Fin 256, bits BinOp.and IntKind.u8 (c.val : Int) 15 = (c.val : Int) % 16 := by decide +kernel
theorem and15 (c : UInt8) : bits BinOp.and IntKind.u8 (c.toNat : Int) 15 = (c.toNat : Int) % 16 := and15' ⟨c.toNat, c.toNat_lt⟩

set_option maxRecDepth 100000 in
set_option maxHeartbeats 4000000 in
theorem quote_any (s : ByteArray) (w : World) (hs : s.size ≤ 1000000000) : Calls Tryd.prog 18 #[.string s] w fun e w' => e = .returned (.string (byt (quoteL s.data.toList))) ∧ Below w.heap.size w w' := by
  obtain ⟨i0, hinf, hz0, hz1, hz2⟩ := info_parts byte_info3
  have HI0 := Lib.hid (And.intro hinf (And.intro hz0 (And.intro hz1 hz2)))
  clear hinf hz0 hz1 hz2
  have HLEN := Lib.hid (fun k => quoTo_len s k)
  have HALL := Lib.hid (quoTo_all s)
  have HB0 : Hid (Buf w.heap.size 5 (.slice (some ⟨w.heap.size, 0, none⟩) 1 1) (quoTo s 0) w (w.alloc (.cells #[.int .u8 34] 5))) := Lib.hid (Buf.lit (l := [34]) rfl (by decide))
  go_enter Tryd.func18, Tryd.ntmps18
  go_upto_region 3 with fail
  go_loopg [3, 9] s.size (fun g s3 s9 wx => ∃ (k : Nat) (v : Value), s3 = v ∧ s9 = .int .i64 k ∧ g = s.size - k ∧ k ≤ s.size ∧ Buf w.heap.size 5 v (quoTo s k) w wx)
  case atStart => exact ⟨0, _, rfl, rfl, rfl, Nat.zero_le _, HB0.out⟩
  case round =>
    clear HB0
    obtain ⟨k, v, rfl, rfl, rfl, hks, hbuf⟩ := hrel
    have HB := Lib.hid hbuf
    clear hbuf
    have hk0 : (0 : Int) ≤ k := by omega
    have hql := HLEN.out k
    by_cases hk : k < s.size
    rotate_left 1
    · obtain rfl : k = s.size := by omega
      have hk' : ¬ (s.size : Int) < s.size := by omega
      obtain ⟨L, hL⟩ : ∃ L, quoTo s s.size = L := ⟨_, rfl⟩
      rw [hL] at HB HALL hql
      clear hL HLEN
      go_wp2_with (at_builtin; refine wpList_append_lits rfl _ _ 42 rfl w.heap.size 5 i0 Tryd.underlying42 HI0.out.1 HI0.out.2.1 HI0.out.2.2.1 HI0.out.2.2.2 _ L rfl w _ (by exact HB.out) [34] _ rfl _ _ rfl rfl (by simp only [List.length_cons, List.length_nil]; omega) ?_; intro v1 w1 hb1; rw [HALL.out] at hb1; have hcv := hb1.text)
      have HBE := Lib.hid hb1.2.1
      clear hb1
      go_wp2
      go_ret
      exact ⟨by simp [byt], HBE.out⟩
    · have hk' : (k : Int) < s.size := by omega
      have HN := Lib.hid (quoTo_next hk)
      obtain ⟨c, hc⟩ : ∃ c, s[k] = c := ⟨_, rfl⟩
      rw [hc] at HN
      obtain ⟨L, hL⟩ : ∃ L, quoTo s k = L := ⟨_, rfl⟩
      rw [hL] at HB HN hql
      clear hL
      have HH := Lib.hid (fun w => hidden_any (c.toNat : Int) w)
      go_upto_region 7 with fail
      by_cases h10 : (c.toNat : Int) = 10
      · have HF : Hid (formB c = [92, 110]) := Lib.hid (by
          have : c = 10 := UInt8.toNat_inj.1 (by show c.toNat = 10; omega)
          rw [this]; rfl)
        have e10 : ((c.toNat : Int) == 10) = true := by simp; exact h10
        go_wp2_with (at_builtin; refine wpList_append_lits rfl _ _ 42 rfl w.heap.size 5 i0 Tryd.underlying42 HI0.out.1 HI0.out.2.1 HI0.out.2.2.1 HI0.out.2.2.2 _ L rfl w _ (by exact HB.out) [92, 110] _ rfl _ _ rfl rfl (by simp only [List.length_cons, List.length_nil]; omega) ?_; intro v1 w1 hb1)
        go_roundg (s.size - (k + 1))
        case measure => omega
        case rel => exact ⟨k + 1, v1, rfl, by go_num, rfl, by omega, by rw [HN.out, HF.out]; exact hb1⟩
      · have e10 : ((c.toNat : Int) == 10) = false := by simp; exact h10
        cases hh : hiddenI (c.toNat : Int)
        · rw [hh] at HH
          have HHH := Lib.hid hh
          have H10 := Lib.hid h10
          clear hh h10
          go_upto_region 11 with (go_at_call 36; refine (HH.out _).mono ?_; rintro _ w2 ⟨rfl, rfl⟩)
          by_cases h34 : (c.toNat : Int) = 34
          · have e34 : ((c.toNat : Int) == 34) = true := by simp; exact h34
            have HF : Hid (formB c = [92, 34]) := Lib.hid (by
                have : c = 34 := UInt8.toNat_inj.1 (by show c.toNat = 34; omega)
                rw [this]; rfl)
            go_wp2_with (at_builtin; refine wpList_append_lits rfl _ _ 42 rfl w.heap.size 5 i0 Tryd.underlying42 HI0.out.1 HI0.out.2.1 HI0.out.2.2.1 HI0.out.2.2.2 _ L rfl w _ (by exact HB.out) [92, 34] _ rfl _ _ rfl rfl (by simp only [List.length_cons, List.length_nil]; omega) ?_; intro v1 w1 hb1)
            go_roundg (s.size - (k + 1))
            case measure => omega
            case rel => exact ⟨k + 1, v1, rfl, by go_num, rfl, by omega, by rw [HN.out, HF.out]; exact hb1⟩
          · have e34 : ((c.toNat : Int) == 34) = false := by simp; exact h34
            by_cases h92 : (c.toNat : Int) = 92
            · have e92 : ((c.toNat : Int) == 92) = true := by simp; exact h92
              have HF : Hid (formB c = [92, 92]) := Lib.hid (by
                have : c = 92 := UInt8.toNat_inj.1 (by show c.toNat = 92; omega)
                rw [this]; rfl)
              clear h34
              go_wp2_with (at_builtin; refine wpList_append_lits rfl _ _ 42 rfl w.heap.size 5 i0 Tryd.underlying42 HI0.out.1 HI0.out.2.1 HI0.out.2.2.1 HI0.out.2.2.2 _ L rfl w _ (by exact HB.out) [92, 92] _ rfl _ _ rfl rfl (by simp only [List.length_cons, List.length_nil]; omega) ?_; intro v1 w1 hb1)
              go_roundg (s.size - (k + 1))
              case measure => omega
              case rel => exact ⟨k + 1, v1, rfl, by go_num, rfl, by omega, by rw [HN.out, HF.out]; exact hb1⟩
            · have e92 : ((c.toNat : Int) == 92) = false := by simp; exact h92
              have HF := Lib.hid (form_plain HHH.out H10.out h34 h92)
              clear h34 h92
              go_wp2_with (at_builtin; refine wpList_append_lits rfl _ _ 42 rfl w.heap.size 5 i0 Tryd.underlying42 HI0.out.1 HI0.out.2.1 HI0.out.2.2.1 HI0.out.2.2.2 _ L rfl w _ (by exact HB.out) [c] _ rfl _ _ rfl rfl (by simp only [List.length_cons, List.length_nil]; omega) ?_; intro v1 w1 hb1)
              go_roundg (s.size - (k + 1))
              case measure => omega
              case rel => exact ⟨k + 1, v1, rfl, by go_num, rfl, by omega, by rw [HN.out, HF.out]; exact hb1⟩
        · rw [hh] at HH
          have HF := Lib.hid (form_hid hh)
          have hx0 : (0 : Int) ≤ (c.toNat : Int) / 16 := by omega
          have hx1 : (c.toNat : Int) / 16 < 16 := by have := c.toNat_lt; omega
          have hy0 : (0 : Int) ≤ (c.toNat : Int) % 16 := by omega
          have hy1 : (c.toNat : Int) % 16 < 16 := by omega
          have eA := and15 c
          have ex := hexes_of (c.toNat / 16) ((c.toNat : Int) / 16) (by omega) (by omega)
          have ey := hexes_of (c.toNat % 16) ((c.toNat : Int) % 16) (by omega) (by omega)
          obtain ⟨p, hp⟩ : ∃ p, hexB (c.toNat / 16) = p := ⟨_, rfl⟩
          obtain ⟨r, hr⟩ : ∃ p, hexB (c.toNat % 16) = p := ⟨_, rfl⟩
          rw [hp] at HF ex
          rw [hr] at HF ey
          clear hp hr
          clear hh h10
          go_upto_region 10 with (go_at_call 36; refine (HH.out _).mono ?_; rintro _ w2 ⟨rfl, rfl⟩)
          refine wp_region_Y (S := (fun _ : World => True ∧ True)) 9 (by kernel_rfl) (⟨trivial, trivial⟩) (fun hHeld => ?_)
          refine wpAnyY_take (i := 0) (v := ?_) rfl (by kernel_rfl) (by kernel_rfl) (by kernel_rfl) (by kernel_rfl) (fun _ _ _ h => h) (Or.inl ⟨by rfl, ?_⟩) (by assumption) ?_
          rotate_left 1
          · (intro w' hSw; obtain ⟨s0, s1⟩ := hSw; go_simp); try with_reducible rfl
          try simp only [Act.put, List.setIfInBounds_toArray, List.set_cons_zero, List.set_cons_succ, Nat.zero_add]
          refine wpAnyY_take (i := 1) (v := ?_) rfl (by kernel_rfl) (by kernel_rfl) (by kernel_rfl) (by kernel_rfl) (fun _ _ _ h => h) (Or.inl ⟨by rfl, ?_⟩) (by assumption) ?_
          rotate_left 1
          · (intro w' hSw; obtain ⟨s0, s1⟩ := hSw; go_simp); try with_reducible rfl
          try simp only [Act.put, List.setIfInBounds_toArray, List.set_cons_zero, List.set_cons_succ, Nat.zero_add]
          refine wpAnyY_take (i := 2) (v := ?_) rfl (by kernel_rfl) (by kernel_rfl) (by kernel_rfl) (by kernel_rfl) (fun _ _ _ h => h) (Or.inl ⟨by rfl, ?_⟩) (by assumption) ?_
          rotate_left 1
          · (intro w' hSw; obtain ⟨s0, s1⟩ := hSw; go_simp); try with_reducible rfl
          try simp only [Act.put, List.setIfInBounds_toArray, List.set_cons_zero, List.set_cons_succ, Nat.zero_add]
          refine wpAnyY_take (i := 3) (v := ?_) rfl (by kernel_rfl) (by kernel_rfl) (by kernel_rfl) (by kernel_rfl) (fun _ _ _ h => h) (Or.inl ⟨by rfl, ?_⟩) (by assumption) ?_
          rotate_left 1
          · (intro w' hSw; obtain ⟨s0, s1⟩ := hSw; go_simp); try with_reducible rfl
          try simp only [Act.put, List.setIfInBounds_toArray, List.set_cons_zero, List.set_cons_succ, Nat.zero_add]
          refine wpAnyY_take (i := 4) (v := ?_) rfl (by kernel_rfl) (by kernel_rfl) (by kernel_rfl) (by kernel_rfl) (fun _ _ _ h => h) (Or.inl ⟨by rfl, ?_⟩) (by assumption) ?_
          rotate_left 1
          · (intro w' hSw; obtain ⟨s0, s1⟩ := hSw; go_simp); try with_reducible rfl
          try simp only [Act.put, List.setIfInBounds_toArray, List.set_cons_zero, List.set_cons_succ, Nat.zero_add]
          refine wpAnyY_take (i := 5) (v := ?_) rfl (by kernel_rfl) (by kernel_rfl) (by kernel_rfl) (by kernel_rfl) (fun _ _ _ h => h) (Or.inl ⟨by rfl, ?_⟩) (by assumption) ?_
          rotate_left 1
          · (intro w' hSw; obtain ⟨s0, s1⟩ := hSw; go_simp); try with_reducible rfl
          try simp only [Act.put, List.setIfInBounds_toArray, List.set_cons_zero, List.set_cons_succ, Nat.zero_add]
          refine wpAnyY_take (i := 6) (v := ?_) rfl (by kernel_rfl) (by kernel_rfl) (by kernel_rfl) (by kernel_rfl) (fun _ _ _ h => h) (Or.inl ⟨by rfl, ?_⟩) (by assumption) ?_
          rotate_left 1
          · (intro w' hSw; obtain ⟨s0, s1⟩ := hSw; go_simp); try with_reducible rfl
          try simp only [Act.put, List.setIfInBounds_toArray, List.set_cons_zero, List.set_cons_succ, Nat.zero_add]
          refine wpAnyY_one (i := 7) rfl (by kernel_rfl) (fun K hK => ?_)
          go_simp
          obtain ⟨q, hq⟩ : ∃ q, wr.heap.size = q := ⟨_, rfl⟩
          obtain ⟨w7, hnw⟩ : ∃ x : World, (wr.alloc (.cells #[.int .u8 92, .int .u8 120, .int .u8 p.toNat, .int .u8 r.toNat] 5)).drew = x := ⟨_, rfl⟩
          have HK7 : Hid (Blk w7 q 5 #[.int .u8 92, .int .u8 120, .int .u8 p.toNat, .int .u8 r.toNat]) := Lib.hid (by rw [← hnw]; exact (Blk.new' hq.symm).drew)
          have HB7 : Hid (Buf w.heap.size 5 _ L w w7) := Lib.hid (by rw [← hnw]; exact Buf.below (Lib.OwnBuf.alloc HB.out _) (Below.refl _ _).drew)
          rw [hnw]
          try rw [hq]
          clear hnw hq
          refine hK.out _ _ (fun _ => ⟨trivial, trivial⟩) ?_
          clear hK K
          try simp only [Act.put, List.setIfInBounds_toArray, List.set_cons_zero, List.set_cons_succ, Nat.zero_add]
          refine wpAnyY_one (i := 8) rfl (by kernel_rfl) (fun K hK => ?_)
          rw [if_pos (by simp [Region.wanted])]
          refine wp_append_blk (P := Tryd.prog) _ _ 42 (by rfl) w.heap.size 5 i0 Tryd.underlying42 HI0.out.1 HI0.out.2.1 HI0.out.2.2.1 HI0.out.2.2.2 _ L (by rfl) w HB7.out [92, 120, p, r] _ (by rfl) q HK7.out _ _ (by rfl) (by rfl) (by simp only [List.length_cons, List.length_nil]; omega) ?_
          intro v1 w1 hb1
          have HB8 := Lib.hid hb1
          clear hb1
          refine hK.out _ _ (fun _ => ⟨trivial, trivial⟩) ?_
          clear hK K
          try simp only [Act.put, List.setIfInBounds_toArray, List.set_cons_zero, List.set_cons_succ, Nat.zero_add]
          refine wpAnyY_one0 (i := 9) rfl (by kernel_rfl) (by kernel_rfl) (fun K hK => ?_)
          go_simp
          refine hK.out _ _ ?_
          clear hK K
          try simp only [Act.put, List.setIfInBounds_toArray, List.set_cons_zero, List.set_cons_succ, Nat.zero_add]
          refine wpAnyY_done (by kernel_rfl) ?_ _
          go_wp2
          go_roundg (s.size - (k + 1))
          case measure => omega
          case rel => exact ⟨k + 1, v1, rfl, by go_num, rfl, by omega, by rw [HN.out, HF.out]; exact HB8.out⟩
end Go.Proofs.YtpkapommekkbcaaDoor
