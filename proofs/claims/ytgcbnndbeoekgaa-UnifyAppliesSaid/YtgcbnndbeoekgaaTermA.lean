import Derived.Test.YtgcbnndbeoekgaaReader
set_option linter.unusedSimpArgs false
set_option linter.unusedVariables false
namespace Go.Proofs.Ytgcbnndbeoekgaa
open Go Go.RowKit

theorem quiet_left {P : Program} {f : FuncId} {args : Array Value} {w : World} {n : Nat} {v : Value} (h : Calls P f args (w.drewN n) fun e w' => e = .returned v ∧ w.drewN n = w') : Calls P f args (w.drewN n) fun e w'' => e = .returned v ∧ ∃ m, w'' = w.drewN m :=
  h.mono fun _ _ ⟨he, hm⟩ => ⟨he, n, hm.symm⟩

def TermPost (B : Nat) (s : ByteArray) (i : Nat) (ts : List TN) (w : World) (e : Ending) (w' : World) : Prop :=
  ∃ (err : Int) (j : Nat) (ts' : List TN), e = .returned (.int .i64 err) ∧ Rd w' B s j ts' ∧ Below B w w' ∧ Sim s i ts err j ts'

theorem cut_one {s : ByteArray} {i : Nat} (h : i < s.size) : (s.extract i (i + 1)).data.toList = [s[i]] := by
  rw [ByteArray.data_extract, Array.toList_extract, List.extract_eq_take_drop]
  rw [show i + 1 - i = 1 by omega, List.drop_eq_getElem_cons (show i < s.data.toList.length from h)]
  rfl
theorem right_one (c : UInt8) : rightB [c] = letterB c := by
  cases h : letterB c <;> simp [rightB, h]
theorem byte_is {c : UInt8} {n : Nat} (h : ((c.toNat : Int) == n) = true) : c = UInt8.ofNat n := by
  rw [beq_iff_eq] at h
  have : c.toNat = n := by omega
  rw [← this]; simp
theorem byte_isnt {c : UInt8} {n : Nat} (h : ((c.toNat : Int) == n) = false) (hn : n < 256) : c ≠ UInt8.ofNat n := by
  rintro rfl
  rw [beq_eq_false_iff_ne] at h
  exact h (by simp [Nat.mod_eq_of_lt hn])
theorem sim_bad {s : ByteArray} {i : Nat} {ts : List TN} (hi : i ≤ s.size) (hbad : byteAt s i = none ∨ (∃ h : i < s.size, ((s[i].toNat : Int) == 63) = false ∧ letterB s[i] = false)) : Sim s i ts 2 i ts := by
  refine .inr ⟨by decide, hi, fun op => .one ?_⟩
  rcases hbad with h | ⟨h, h1, h2⟩
  · exact step_due_none h
  · exact step_due_bad (byteAt_lt h) (byte_isnt (n := 63) h1 (by omega)) h2
theorem sim_long {s : ByteArray} {i : Nat} {ts : List TN} (h : i < s.size) (hc : ((s[i].toNat : Int) == 63) = true ∨ (((s[i].toNat : Int) == 63) = false ∧ letterB s[i] = true)) (hl : ts.length = 256) : Sim s i ts 3 i ts := by
  exact .inr ⟨by decide, by omega, fun op => .one (step_due_long (byteAt_lt h) (hc.imp (byte_is (n := 63)) (·.2)) hl)⟩

set_option maxRecDepth 100000 in
set_option maxHeartbeats 1000000 in
theorem term_bad (B : Nat) (s : ByteArray) (i : Nat) (ts : List TN) (w : World) (hs : s.size ≤ 9223372036854775807) (h : Rd w B s i ts) (hbad : byteAt s i = none ∨ (∃ h : i < s.size, ((s[i].toNat : Int) == 63) = false ∧ letterB s[i] = false)) :
    Calls Try.prog 22 #[.pointer (some ⟨B, 0, none⟩)] w (TermPost B s i ts w) := by
  have H := Lib.hid h
  obtain ⟨hi, v, hb, ho⟩ := h
  have c0 := hb.cell 0; have c1 := hb.cell 1; have c2 := hb.cell 2
  simp at c0 c1 c2
  obtain ⟨A, c, rfl⟩ := ho.shape
  clear ho
  have hfin := Lib.hid (sim_bad (ts := ts) hi hbad)
  rcases hbad with hbad | ⟨hlt, h63, hl⟩
  · have hlt : i = s.size := by
      unfold byteAt at hbad; split at hbad
      · cases hbad
      · omega
    have hl' : ((i : Int) == s.size) = true := beq_iff_eq.2 (by omega)
    clear hlt hbad
    go_enter Try.func22, Try.ntmps22
    go_wp2
    go_quiet (fail)
    go_wp2
    go_ret
    exact ⟨2, i, ts, rfl, H.out.drewN _, below_drewN (Below.refl _ _) _, hfin.out⟩
  · have hl' : ((i : Int) == s.size) = false := beq_eq_false_iff_ne.2 (by omega)
    have hl2 : (i : Int) < s.size := by omega
    obtain ⟨t, ht⟩ : ∃ t, s.extract i (i + 1) = t := ⟨_, rfl⟩
    have hc : Hid (rightB t.data.toList = false) := Lib.hid (by rw [← ht, cut_one hlt, right_one]; exact hl)
    have htz : t.size ≤ 9223372036854775807 := by rw [← ht, ByteArray.size_extract]; omega
    have h63' : ((s[i].toNat : Int) != 63) = true := by rw [bne_iff_ne]; exact beq_eq_false_iff_ne.1 h63
    have k1 : IntKind.i64.wrap ((i : Int) + 1) = (i : Int) + 1 := IntWalk.i64_in _ ⟨by omega, by omega⟩
    have k2 : (0 : Int) ≤ (i : Int) + 1 := by omega
    have k3 : ((i : Int) + 1).toNat = i + 1 := by omega
    have k4 : (i : Int) + 1 ≤ s.size := by omega
    have k5 : (i : Int) ≤ (i : Int) + 1 := by omega
    go_enter Try.func22, Try.ntmps22
    go_wp2
    go_quiet ((go_at_call 38; exact quiet_left (right_any t _ htz)))
    rw [hc.out]
    clear k1 k2 k3 k4 k5 ht
    go_wp2
    go_ret
    exact ⟨2, i, ts, rfl, H.out.drewN _, below_drewN (Below.refl _ _) _, hfin.out⟩

set_option maxRecDepth 100000 in
set_option maxHeartbeats 1000000 in
theorem term_long (B : Nat) (s : ByteArray) (i : Nat) (ts : List TN) (w : World) (hs : s.size ≤ 9223372036854775807) (h : Rd w B s i ts) (hlt : i < s.size) (hc : ((s[i].toNat : Int) == 63) = true ∨ (((s[i].toNat : Int) == 63) = false ∧ letterB s[i] = true)) (hlen : ts.length = 256) :
    Calls Try.prog 22 #[.pointer (some ⟨B, 0, none⟩)] w (TermPost B s i ts w) := by
  have H := Lib.hid h
  obtain ⟨hi, v, hb, ho⟩ := h
  have c0 := hb.cell 0; have c1 := hb.cell 1; have c2 := hb.cell 2
  simp at c0 c1 c2
  obtain ⟨A, c, rfl⟩ := ho.shape
  clear ho
  have hfin := Lib.hid (sim_long hlt hc hlen)
  have hl256 : ((ts.length : Int) == 256) = true := beq_iff_eq.2 (by omega)
  clear hlen
  rcases hc with h63 | ⟨h63, hl⟩
  · have hl' : ((i : Int) == s.size) = false := beq_eq_false_iff_ne.2 (by omega)
    have hl2 : (i : Int) < s.size := by omega
    have h63' : ((s[i].toNat : Int) != 63) = false := by rw [bne_eq_false_iff_eq]; exact beq_iff_eq.1 h63
    go_enter Try.func22, Try.ntmps22
    go_wp2
    go_quiet (fail)
    go_wp2
    go_ret
    exact ⟨3, i, ts, rfl, H.out.drewN _, below_drewN (Below.refl _ _) _, hfin.out⟩
  · have hl' : ((i : Int) == s.size) = false := beq_eq_false_iff_ne.2 (by omega)
    have hl2 : (i : Int) < s.size := by omega
    obtain ⟨t, ht⟩ : ∃ t, s.extract i (i + 1) = t := ⟨_, rfl⟩
    have hc : Hid (rightB t.data.toList = true) := Lib.hid (by rw [← ht, cut_one hlt, right_one]; exact hl)
    have htz : t.size ≤ 9223372036854775807 := by rw [← ht, ByteArray.size_extract]; omega
    have h63' : ((s[i].toNat : Int) != 63) = true := by rw [bne_iff_ne]; exact beq_eq_false_iff_ne.1 h63
    have k1 : IntKind.i64.wrap ((i : Int) + 1) = (i : Int) + 1 := IntWalk.i64_in _ ⟨by omega, by omega⟩
    have k2 : (0 : Int) ≤ (i : Int) + 1 := by omega
    have k3 : ((i : Int) + 1).toNat = i + 1 := by omega
    have k4 : (i : Int) + 1 ≤ s.size := by omega
    have k5 : (i : Int) ≤ (i : Int) + 1 := by omega
    go_enter Try.func22, Try.ntmps22
    go_wp2
    go_quiet ((go_at_call 38; exact quiet_left (right_any t _ htz)))
    rw [hc.out]
    clear k1 k2 k3 k4 k5 ht
    go_wp2
    go_ret
    exact ⟨3, i, ts, rfl, H.out.drewN _, below_drewN (Below.refl _ _) _, hfin.out⟩
end Go.Proofs.Ytgcbnndbeoekgaa
