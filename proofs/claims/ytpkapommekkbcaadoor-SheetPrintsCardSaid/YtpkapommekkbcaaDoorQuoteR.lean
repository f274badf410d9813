/- a text in quotes, as the document has it; blanks; a number's text -/
import Derived.Test.YtpkapommekkbcaaDoorQuote
set_option linter.unusedSimpArgs false
set_option linter.unusedVariables false
namespace Go.Proofs.YtpkapommekkbcaaDoor
open Go Go.RowKit

set_option maxRecDepth 100000 in
set_option maxHeartbeats 4000000 in
theorem form_any (c : UInt8) (w : World) : Calls Tryd.prog 56 #[.int .u8 c.toNat] w fun e w' => e = .returned (.string (byt (formB c))) ∧ Below w.heap.size w w' := by
  by_cases h34 : c = 34
  · subst h34
    go_enter Tryd.func56, Tryd.ntmps56
    go_wp2
    go_ret
    exact ⟨by rfl, Below.refl _ _⟩
  by_cases h92 : c = 92
  · subst h92
    go_enter Tryd.func56, Tryd.ntmps56
    go_wp2
    go_ret
    exact ⟨by rfl, Below.refl _ _⟩
  by_cases h10 : c = 10
  · subst h10
    go_enter Tryd.func56, Tryd.ntmps56
    go_wp2
    go_ret
    exact ⟨by rfl, Below.refl _ _⟩
  have g34 : ((c.toNat : Int) == 34) = false := beq_eq_false_iff_ne.2 (fun e => h34 (UInt8.toNat_inj.1 (by show c.toNat = 34; omega)))
  have g92 : ((c.toNat : Int) == 92) = false := beq_eq_false_iff_ne.2 (fun e => h92 (UInt8.toNat_inj.1 (by show c.toNat = 92; omega)))
  have g10 : ((c.toNat : Int) == 10) = false := beq_eq_false_iff_ne.2 (fun e => h10 (UInt8.toNat_inj.1 (by show c.toNat = 10; omega)))
  have hF0 : formB c = if 32 ≤ c.toNat ∧ c.toNat ≤ 126 then [c] else [92, 120, hexB (c.toNat / 16), hexB (c.toNat % 16)] := by
    unfold formB
    rw [if_neg h10, if_neg (c := c = 34 ∨ c = 92) (by simp [h34, h92])]
  by_cases hp : 32 ≤ c.toNat ∧ c.toNat ≤ 126
  · rw [if_pos hp] at hF0
    have HF := Lib.hid hF0
    have p1 : (32 : Int) ≤ c.toNat := by omega
    have p2 : (c.toNat : Int) ≤ 126 := by omega
    have hcv := (Buf.lit (e := 5) (l := [c]) (w := w) (cs := #[.int .u8 c.toNat]) rfl (by unfold maxLen; simp)).text
    simp only [List.length_cons, List.length_nil, Nat.zero_add] at hcv
    clear hF0 hp h34 h92 h10
    go_enter Tryd.func56, Tryd.ntmps56
    go_wp2
    go_ret
    exact ⟨by rw [HF.out]; rfl, (Below.refl _ _).alloc (Nat.le_refl _) _⟩
  · rw [if_neg hp] at hF0
    have p1 : (32 : Int) ≤ c.toNat ∧ ¬ (c.toNat : Int) ≤ 126 ∨ ¬ (32 : Int) ≤ c.toNat := by omega
    have hx0 : (0 : Int) ≤ (c.toNat : Int) / 16 := by omega
    have hx1 : (c.toNat : Int) / 16 < 16 := by have := c.toNat_lt; omega
    have hy0 : (0 : Int) ≤ (c.toNat : Int) % 16 := by omega
    have hy1 : (c.toNat : Int) % 16 < 16 := by omega
    have hw1 : IntKind.u8.wrap ((c.toNat : Int) / 16) = (c.toNat : Int) / 16 := IntWalk.u8_in _ ⟨by omega, by omega⟩
    have hw2 : (c.toNat : Int).tmod 16 = (c.toNat : Int) % 16 := Int.tmod_eq_emod_of_nonneg (by omega)
    have ex := hexes_of (c.toNat / 16) ((c.toNat : Int) / 16) (by omega) (by omega)
    have ey := hexes_of (c.toNat % 16) ((c.toNat : Int) % 16) (by omega) (by omega)
    obtain ⟨p, hp⟩ : ∃ p, hexB (c.toNat / 16) = p := ⟨_, rfl⟩
    obtain ⟨r, hr⟩ : ∃ p, hexB (c.toNat % 16) = p := ⟨_, rfl⟩
    rw [hp] at ex hF0
    rw [hr] at ey hF0
    have HF : Hid (formB c = [92, 120, p, r]) := Lib.hid hF0
    clear hF0 hp hr h34 h92 h10
    go_enter Tryd.func56, Tryd.ntmps56
    rcases p1 with ⟨p1, p2⟩ | p1
    all_goals
      go_upto_region 9 with fail
      refine wp_region_Y (S := (fun _ : World => True ∧ True)) 9 (by kernel_rfl) (⟨trivial, trivial⟩) (fun hHeld => ?_)
      refine wpAnyY_take (i := 0) (v := ?_) rfl (by kernel_rfl) (by kernel_rfl) (by kernel_rfl) (by kernel_rfl) (fun _ _ _ h => h) (Or.inl ⟨by rfl, ?_⟩) (by assumption) ?_
      rotate_left 1
      · (intro w' hSw; obtain ⟨s0, s1⟩ := hSw; go_simp); try with_reducible rfl
      try simp only [Act.put, List.setIfInBounds_toArray, List.set_cons_zero, List.set_cons_succ, Nat.zero_add]
      refine wpAnyY_take (i := 1) (v := ?_) rfl (by kernel_rfl) (by kernel_rfl) (by kernel_rfl) (by kernel_rfl) (fun _ _ _ h => h) (Or.inl ⟨by rfl, ?_⟩) (by assumption) ?_
      rotate_left 1
      · (intro w' hSw; obtain ⟨s0, s1⟩ := hSw; go_simp); try with_reducible rfl
      try simp only [Act.put, List.setIfInBounds_toArray, List.set_cons_zero, List.set_cons_succ, Nat.zero_add]
      refine wpAnyY_take (i := 2) (v := ?_) rfl (by kernel_rfl) (by kernel_rfl) (by kernel_rfl) (by kernel_rfl) (fun _ _ _ h => h) (Or.inl ⟨by rfl, ?_⟩) (by assumption) ?_
      rotate_left 1
      · (intro w' hSw; obtain ⟨s0, s1⟩ := hSw; go_simp); try with_reducible rfl
      try simp only [Act.put, List.setIfInBounds_toArray, List.set_cons_zero, List.set_cons_succ, Nat.zero_add]
      refine wpAnyY_take (i := 3) (v := ?_) rfl (by kernel_rfl) (by kernel_rfl) (by kernel_rfl) (by kernel_rfl) (fun _ _ _ h => h) (Or.inl ⟨by rfl, ?_⟩) (by assumption) ?_
      rotate_left 1
      · (intro w' hSw; obtain ⟨s0, s1⟩ := hSw; go_simp); try with_reducible rfl
      try simp only [Act.put, List.setIfInBounds_toArray, List.set_cons_zero, List.set_cons_succ, Nat.zero_add]
      refine wpAnyY_take (i := 4) (v := ?_) rfl (by kernel_rfl) (by kernel_rfl) (by kernel_rfl) (by kernel_rfl) (fun _ _ _ h => h) (Or.inl ⟨by rfl, ?_⟩) (by assumption) ?_
      rotate_left 1
      · (intro w' hSw; obtain ⟨s0, s1⟩ := hSw; go_simp); try with_reducible rfl
      try simp only [Act.put, List.setIfInBounds_toArray, List.set_cons_zero, List.set_cons_succ, Nat.zero_add]
      refine wpAnyY_take (i := 5) (v := ?_) rfl (by kernel_rfl) (by kernel_rfl) (by kernel_rfl) (by kernel_rfl) (fun _ _ _ h => h) (Or.inl ⟨by rfl, ?_⟩) (by assumption) ?_
      rotate_left 1
      · (intro w' hSw; obtain ⟨s0, s1⟩ := hSw; go_simp); try with_reducible rfl
      try simp only [Act.put, List.setIfInBounds_toArray, List.set_cons_zero, List.set_cons_succ, Nat.zero_add]
      refine wpAnyY_one (i := 6) rfl (by kernel_rfl) (fun K hK => ?_)
      go_simp
      obtain ⟨q, hq⟩ : ∃ q, w.heap.size = q := ⟨_, rfl⟩
      obtain ⟨w7, hnw⟩ : ∃ x : World, (w.alloc (.cells #[.int .u8 p.toNat, .int .u8 r.toNat] 5)).drew = x := ⟨_, rfl⟩
      have HB7 : Hid (Below w.heap.size w w7) := Lib.hid (by rw [← hnw]; exact ((Below.refl _ _).alloc (Nat.le_refl _) _).drew)
      have hcv := (Buf.below (Buf.lit (e := 5) (l := [p, r]) (w := w) (cs := #[.int .u8 p.toNat, .int .u8 r.toNat]) rfl (by unfold maxLen; simp)) (Below.refl _ _).drew).text
      simp only [List.length_cons, List.length_nil, Nat.zero_add] at hcv
      rw [hnw] at hcv ⊢
      try rw [hq] at hcv ⊢
      clear hnw hq
      refine hK.out _ _ (fun _ => ⟨trivial, trivial⟩) ?_
      clear hK K
      try simp only [Act.put, List.setIfInBounds_toArray, List.set_cons_zero, List.set_cons_succ, Nat.zero_add]
      refine wpAnyY_one (i := 7) rfl (by kernel_rfl) (fun K hK => ?_)
      go_simp
      refine hK.out _ _ (fun _ => ⟨trivial, trivial⟩) ?_
      clear hK K
      try simp only [Act.put, List.setIfInBounds_toArray, List.set_cons_zero, List.set_cons_succ, Nat.zero_add]
      refine wpAnyY_one (i := 8) rfl (by kernel_rfl) (fun K hK => ?_)
      go_simp
      refine hK.out _ _ (fun _ => ⟨trivial, trivial⟩) ?_
      clear hK K
      try simp only [Act.put, List.setIfInBounds_toArray, List.set_cons_zero, List.set_cons_succ, Nat.zero_add]
      refine wpAnyY_one0 (i := 9) rfl (by kernel_rfl) (by kernel_rfl) (fun K hK => ?_)
      go_simp
      refine hK.out _ _ ?_
      clear hK K
      try simp only [Act.put, List.setIfInBounds_toArray, List.set_cons_zero, List.set_cons_succ, Nat.zero_add]
      refine wpAnyY_done (by kernel_rfl) ?_ _
      go_wp2
      go_ret
      exact ⟨by rw [HF.out]; exact congrArg (fun x => Ending.returned (.string x)) (byt_app [92, 120] [p, r]), HB7.out⟩

set_option maxRecDepth 100000 in
set_option maxHeartbeats 4000000 in
theorem rquote_any (s : ByteArray) (w : World) (hs : s.size ≤ 1000000000) : Calls Tryd.prog 44 #[.string s] w fun e w' => e = .returned (.string (byt (quoteL s.data.toList))) ∧ Below w.heap.size w w' := by
  obtain ⟨i0, hinf, hz0, hz1, hz2⟩ := info_parts byte_info3
  have HI0 := Lib.hid (And.intro hinf (And.intro hz0 (And.intro hz1 hz2)))
  clear hinf hz0 hz1 hz2
  have HLEN := Lib.hid (fun k => quoTo_len s k)
  have HALL := Lib.hid (quoTo_all s)
  have HB0 : Hid (Buf w.heap.size 5 (.slice (some ⟨w.heap.size, 0, none⟩) 1 1) (quoTo s 0) w (w.alloc (.cells #[.int .u8 34] 5))) := Lib.hid (Buf.lit (l := [34]) rfl (by decide))
  go_enter Tryd.func44, Tryd.ntmps44
  go_upto_region 3 with fail
  go_loopg [3, 4] s.size (fun g s3 s4 wx => ∃ (k : Nat) (v : Value), s3 = v ∧ s4 = .int .i64 k ∧ g = s.size - k ∧ k ≤ s.size ∧ Buf w.heap.size 5 v (quoTo s k) w wx)
  case atStart => exact ⟨0, _, rfl, rfl, rfl, Nat.zero_le _, HB0.out⟩
  case round =>
    clear HB0
    obtain ⟨k, v, rfl, rfl, rfl, hks, hbuf⟩ := hrel
    have HB := Lib.hid hbuf
    clear hbuf
    have hk0 : (0 : Int) ≤ k := by omega
    have hql := HLEN.out k
    by_cases hk : k < s.size
    rotate_left 1
    · obtain rfl : k = s.size := by omega
      have hk' : ¬ (s.size : Int) < s.size := by omega
      obtain ⟨L, hL⟩ : ∃ L, quoTo s s.size = L := ⟨_, rfl⟩
      rw [hL] at HB HALL hql
      clear hL HLEN
      go_wp2_with (at_builtin; refine wpList_append_lits rfl _ _ 42 rfl w.heap.size 5 i0 Tryd.underlying42 HI0.out.1 HI0.out.2.1 HI0.out.2.2.1 HI0.out.2.2.2 _ L rfl w _ (by exact HB.out) [34] _ rfl _ _ rfl rfl (by simp only [List.length_cons, List.length_nil]; omega) ?_; intro v1 w1 hb1; rw [HALL.out] at hb1; have hcv := hb1.text)
      have HBE := Lib.hid hb1.2.1
      clear hb1
      go_wp2
      go_ret
      exact ⟨by simp [byt], HBE.out⟩
    · have hk' : (k : Int) < s.size := by omega
      have HN := Lib.hid (quoTo_next hk)
      obtain ⟨c, hc⟩ : ∃ c, s[k] = c := ⟨_, rfl⟩
      rw [hc] at HN
      obtain ⟨L, hL⟩ : ∃ L, quoTo s k = L := ⟨_, rfl⟩
      rw [hL] at HB HN hql
      clear hL
      have HFA := Lib.hid (form_any c wr)
      obtain ⟨y, hy⟩ : ∃ y, formB c = y := ⟨_, rfl⟩
      have hyl : y.length ≤ 4 := by rw [← hy]; exact (form_len c).2
      rw [hy] at HFA HN
      clear hy
      go_wp2_with (go_at_call 56; refine HFA.out.mono ?_)
      rintro _ w2 ⟨rfl, hb⟩
      have HB2 := Lib.hid (HB.out.below hb)
      clear hb HB HFA
      go_wp2_with (at_builtin; refine wpList_append_str rfl _ _ 42 9 rfl w.heap.size 5 i0 Tryd.underlying42 Tryd.underlying9 HI0.out.1 HI0.out.2.1 HI0.out.2.2.1 HI0.out.2.2.2 _ L rfl w (by exact HB2.out) _ y (byt_list y) rfl (by omega) ?_; intro v1 w1 hb1)
      go_roundg (s.size - (k + 1))
      case measure => omega
      case rel => exact ⟨k + 1, v1, rfl, by go_num, rfl, by omega, by rw [HN.out]; exact hb1⟩

/-- so many blanks -/
theorem blanks_next (n : Nat) : byt (blanksL n) ++ ⟨#[32]⟩ = byt (blanksL (n + 1)) := by
  rw [show (⟨#[32]⟩ : ByteArray) = byt [32] from rfl, byt_app]
  unfold blanksL
  rw [List.replicate_succ']
set_option maxRecDepth 100000 in
set_option maxHeartbeats 1000000 in
theorem rblanks_any (n : Nat) (w : World) (hn : n ≤ 100000) : Calls Tryd.prog 43 #[.int .i64 n] w fun e w' => e = .returned (.string (byt (blanksL n))) ∧ w = w' := by
  have HNX := Lib.hid blanks_next
  go_enter Tryd.func43, Tryd.ntmps43
  go_upto_region 3 with fail
  go_loopg [3, 4] n (fun g s3 s4 wx => ∃ k : Nat, s3 = .string (byt (blanksL k)) ∧ s4 = .int .i64 k ∧ g = n - k ∧ k ≤ n ∧ w = wx)
  case atStart => exact ⟨0, rfl, rfl, rfl, Nat.zero_le _, rfl⟩
  case round =>
    obtain ⟨k, rfl, rfl, rfl, hk, rfl⟩ := hrel
    have hk0 : (0 : Int) ≤ k := by omega
    have hsz : (byt (blanksL k)).size ≤ 100000 := by rw [byt_size, blanks_len]; omega
    by_cases hlt : k < n
    · have hk' : (k : Int) < n := by omega
      go_wp2
      go_roundg (n - (k + 1))
      case measure => omega
      case rel => exact ⟨k + 1, by rw [HNX.out], by go_num, rfl, by omega, rfl⟩
    · obtain rfl : k = n := by omega
      have hk' : ¬ (k : Int) < k := by omega
      go_wp2
      go_ret
      exact ⟨rfl, rfl⟩

set_option maxRecDepth 100000 in
set_option maxHeartbeats 1000000 in
theorem rshow_any (n : Nat) (h1 : 1 ≤ n) (h2 : n ≤ 2147483647) (w : World) : Calls Tryd.prog 39 #[.int .i64 n] w fun e w' => e = .returned (.string (byt (digs n))) ∧ w = w' := by
  have n1 : (1 : Int) ≤ n := by omega
  have n2 : (n : Int) ≤ 2147483647 := by omega
  have e0 : ((n : Int) == 0) = false := beq_eq_false_iff_ne.2 (by omega)
  have HD : Hid (digz n = digs n) := Lib.hid (if_neg (by omega))
  have HL : Hid ((digs n).length ≤ 10) := Lib.hid (digs_len 9 n (by omega))
  go_enter Tryd.func39, Tryd.ntmps39
  go_wp2
  go_loopg [3, 5] n (fun g s3 s5 wx => ∃ (m : Nat) (acc : List UInt8), s3 = .int .u64 m ∧ s5 = .string (byt acc) ∧ g = m ∧ m ≤ n ∧ digs n = digz m ++ acc ∧ w = wx)
  case atStart => exact ⟨n, [], by rfl, rfl, rfl, Nat.le_refl _, by rw [HD.out, List.append_nil], rfl⟩
  case round =>
    obtain ⟨m, acc, rfl, rfl, hg, hm, hd, rfl⟩ := hrel
    have HDD := Lib.hid hd
    have hal : acc.length ≤ 10 := by have h3 := HL.out; rw [hd, List.length_append] at h3; omega
    have hsz : (byt acc).size ≤ 10 := hal
    have hg := hg.symm
    subst hg
    clear hd
    have m0 : (0 : Int) ≤ m := by omega
    have m3 : (m : Int) ≤ 2147483647 := by omega
    by_cases hp : 0 < m
    · have HS := Lib.hid (digz_step hp)
      have HC : Hid ((⟨#[48, 49, 50, 51, 52, 53, 54, 55, 56, 57]⟩ : ByteArray).extract (m % 10) (m % 10 + 1) ++ byt acc = byt (UInt8.ofNat (48 + m % 10) :: acc)) := Lib.hid (by
        have := fig_cut ⟨m % 10, by omega⟩
        simp only at this
        rw [this, byt_app]; rfl)
      go_wp2
      go_roundg (m / 10)
      case measure => omega
      case rel => exact ⟨m / 10, UInt8.ofNat (48 + m % 10) :: acc, by go_num, by rw [HC.out], rfl, by omega, by rw [HDD.out, HS.out]; simp, rfl⟩
    · have HZ : Hid ((⟨#[]⟩ : ByteArray) ++ byt acc = byt (digs n)) := Lib.hid (by rw [HDD.out, show m = 0 by omega]; exact byt_app [] acc)
      go_wp2
      go_ret
      exact ⟨by rw [← HZ.out]; rfl, rfl⟩
end Go.Proofs.YtpkapommekkbcaaDoor
