import Derived.Test.YtgcbnndbeoekgaaDoorNameWalks
import Derived.Test.YtgcbnndbeoekgaaDoorMachine
import Derived.Test.YtgcbnndbeoekgaaDoorNums
import Derived.Test.YtgcbnndbeoekgaaDoorNodes
import Derived.Deep.RegionHeld3
set_option linter.unusedSimpArgs false
set_option linter.unusedVariables false
section
namespace Go.Proofs.YtgcbnndbeoekgaaDoor
open Go Go.RowKit

/-- how far the digits have been gone through -/
def Digs (d : List UInt8) (k m : Nat) : Prop := k ≤ d.length ∧ (d.take k).all figureB = true ∧ m = digitsVal (d.take k)
theorem Digs.start (d : List UInt8) : Digs d 0 0 := ⟨Nat.zero_le _, rfl, rfl⟩
theorem Digs.lt {d : List UInt8} {k m : Nat} (h : Digs d k m) : m < 10 ^ k := by
  have := digitsVal_lt _ h.2.1
  rw [List.length_take_of_le h.1] at this
  rw [h.2.2]; exact this
theorem Digs.next {d : List UInt8} {k m : Nat} (h : Digs d k m) (hk : k < d.length) (hf : figureB d[k] = true) : Digs d (k + 1) (10 * m + (d[k].toNat - 48)) := by
  refine ⟨hk, ?_, ?_⟩
  · rw [List.take_succ_eq_append_getElem hk, List.all_append, h.2.1]; simpa using hf
  · rw [List.take_succ_eq_append_getElem hk, digitsVal_snoc, h.2.2]
theorem Digs.no {d : List UInt8} {k m : Nat} (_ : Digs d k m) (hk : k < d.length) (hf : figureB d[k] = false) : magB d = none := by
  have : d.all figureB = false := List.all_eq_false.2 ⟨d[k], List.getElem_mem _, by simpa using hf⟩
  simp [magB, this]
theorem Digs.done {d : List UInt8} {k m : Nat} (h : Digs d k m) (hk : ¬ k < d.length) (h0 : 0 < d.length) (h1 : d.length ≤ 19) : magB d = some m ∧ d.all figureB = true := by
  have hk' := h.1
  have e : d.take k = d := List.take_of_length_le (by omega)
  obtain ⟨_, h2, h3⟩ := h
  rw [e] at h2 h3
  exact ⟨by unfold magB; rw [if_neg (by rw [h2]; rintro (h | h | h) <;> first | omega | cases h), h3], h2⟩
end Go.Proofs.YtgcbnndbeoekgaaDoor
end
section
namespace Go.Proofs.YtgcbnndbeoekgaaDoor
open Go Go.RowKit

end Go.Proofs.YtgcbnndbeoekgaaDoor
end
section
namespace Go.Proofs.YtgcbnndbeoekgaaDoor
open Go Go.RowKit

end Go.Proofs.YtgcbnndbeoekgaaDoor
end
section
namespace Go.Proofs.YtgcbnndbeoekgaaDoor
open Go Go.RowKit

/-- the reader in block B, at a place, with the nodes that it has read -/
def Rd (w : World) (B : Nat) (s : ByteArray) (i : Nat) (ts : List TN) : Prop := i ≤ s.size ∧ ∃ v, Blk w B 74 #[.string s, .int .i64 i, v] ∧ OwnNodes 58 3 w B v ts

theorem Rd.drewN {w : World} {B : Nat} {s : ByteArray} {i : Nat} {ts : List TN} (h : Rd w B s i ts) (n : Nat) : Rd (w.drewN n) B s i ts := h
theorem Rd.to {w : World} {B : Nat} {s : ByteArray} {i : Nat} {ts : List TN} (h : Rd w B s i ts) {j : Nat} (hj : j ≤ s.size) {x : Int} (hx : x = j) : Rd (w.setCell ⟨B, 1, none⟩ (.int .i64 x)) B s j ts := by
  subst hx
  obtain ⟨_, v, hb, ho⟩ := h
  exact ⟨hj, v, by simpa using hb.set_ 1 (.int .i64 j), ho.other hb (by decide) (by decide) _⟩

theorem tn_info : (Tryd.prog.info? 58).map (fun i => (i.zero, i.size, i.bytes)) = some (some (.agg #[.int .i64 0, .string { data := #[] }, .slice none 0 0]), 3, 48) := by kernel_rfl
theorem int_info : (Tryd.prog.info? 3).map (fun i => (i.zero, i.size, i.bytes)) = some (some (.int .i64 0), 1, 8) := by kernel_rfl
def TN.zero : TN := ⟨0, ByteArray.empty, []⟩
/-- behind the append of a node, its slice stored into the reader -/
theorem Rd.pushed {w w1 : World} {B : Nat} {s : ByteArray} {i : Nat} {ts ts' : List TN} {v v' : Value} (hi : i ≤ s.size) (hb : Blk w B 74 #[.string s, .int .i64 i, v]) (ho : OwnNodes 58 3 w B v ts) (hg : w.grownBy w1 v.ownBlock)
    (ho1 : OwnNodes 58 3 w1 B v' ts') : Blk w1 B 74 #[.string s, .int .i64 i, v] ∧ Rd (w1.setCell ⟨B, 2, none⟩ v') B s i ts' := by
  have hb1 : Blk w1 B 74 #[.string s, .int .i64 i, v] := hb.grown hg (fun e => ho.ne_blk hb (by decide) e.symm)
  exact ⟨hb1, hi, v', by simpa using hb1.set_ 2 v', ho1.other hb1 (by decide) (by decide) _⟩

def IsPost (B : Nat) (s : ByteArray) (i : Nat) (ts : List TN) (c : Int) (w : World) (e : Ending) (w' : World) : Prop :=
  Below B w w' ∧ ((e = .returned (.bool true) ∧ (∃ h : i < s.size, (s[i].toNat : Int) = c) ∧ Rd w' B s (i + 1) ts) ∨ (e = .returned (.bool false) ∧ (∀ h : i < s.size, (s[i].toNat : Int) ≠ c) ∧ Rd w' B s i ts))

set_option maxHeartbeats 1000000 in
theorem is_any (B : Nat) (s : ByteArray) (i : Nat) (ts : List TN) (c : Int) (w : World) (hs : s.size ≤ 9223372036854775807) (h : Rd w B s i ts) :
    Calls Tryd.prog 44 #[.pointer (some ⟨B, 0, none⟩), .int .u8 c] w (IsPost B s i ts c w) := by
  have H := Lib.hid h
  obtain ⟨hi, v, hb, ho⟩ := h
  have c0 := hb.cell 0; have c1 := hb.cell 1; have f1 := hb.frozen 1
  simp at c0 c1
  clear ho
  by_cases hlt : i < s.size
  · have hl' : (i : Int) < s.size := by omega
    by_cases hc : (s[i].toNat : Int) = c
    · have hc' : ((s[i].toNat : Int) == c) = true := beq_iff_eq.2 hc
      have HC := Lib.hid hc; clear hc
      go_enter Tryd.func44, Tryd.ntmps44
      go_wp2
      go_quiet (fail)
      go_wp2
      go_ret
      refine ⟨((below_drewN (Below.refl _ _) _).setCell (p := ⟨B, 1, none⟩) (Nat.le_refl _) _), .inl ⟨rfl, ⟨hlt, HC.out⟩, ?_⟩⟩
      exact (H.out.drewN _).to (j := i + 1) (by omega) (by simp)
    · have hc' : ((s[i].toNat : Int) == c) = false := beq_eq_false_iff_ne.2 hc
      have HC := Lib.hid hc; clear hc
      go_enter Tryd.func44, Tryd.ntmps44
      go_wp2
      go_quiet (fail)
      go_wp2
      go_ret
      exact ⟨below_drewN (Below.refl _ _) _, .inr ⟨rfl, fun _ => HC.out, H.out.drewN _⟩⟩
  · have hl' : decide ((i : Int) < s.size) = false := decide_eq_false (by omega)
    go_enter Tryd.func44, Tryd.ntmps44
    go_wp2
    go_quiet (fail)
    go_wp2
    go_ret
    exact ⟨below_drewN (Below.refl _ _) _, .inr ⟨rfl, fun h => absurd h hlt, H.out.drewN _⟩⟩
end Go.Proofs.YtgcbnndbeoekgaaDoor
end
section
namespace Go.Proofs.YtgcbnndbeoekgaaDoor
open Go Go.RowKit

theorem quiet_left {P : Program} {f : FuncId} {args : Array Value} {w : World} {n : Nat} {v : Value} (h : Calls P f args (w.drewN n) fun e w' => e = .returned v ∧ w.drewN n = w') : Calls P f args (w.drewN n) fun e w'' => e = .returned v ∧ ∃ m, w'' = w.drewN m :=
  h.mono fun _ _ ⟨he, hm⟩ => ⟨he, n, hm.symm⟩

def TermPost (B : Nat) (s : ByteArray) (i : Nat) (ts : List TN) (w : World) (e : Ending) (w' : World) : Prop :=
  ∃ (err : Int) (j : Nat) (ts' : List TN), e = .returned (.int .i64 err) ∧ Rd w' B s j ts' ∧ Below B w w' ∧ Sim s i ts err j ts'

theorem cut_one {s : ByteArray} {i : Nat} (h : i < s.size) : (s.extract i (i + 1)).data.toList = [s[i]] := by
  rw [ByteArray.data_extract, Array.toList_extract, List.extract_eq_take_drop]
  rw [show i + 1 - i = 1 by omega, List.drop_eq_getElem_cons (show i < s.data.toList.length from h)]
  rfl
theorem right_one (c : UInt8) : rightB [c] = letterB c := by
  cases h : letterB c <;> simp [rightB, h]
theorem byte_is {c : UInt8} {n : Nat} (h : ((c.toNat : Int) == n) = true) : c = UInt8.ofNat n := by
  rw [beq_iff_eq] at h
  have : c.toNat = n := by omega
  rw [← this]; simp
theorem byte_isnt {c : UInt8} {n : Nat} (h : ((c.toNat : Int) == n) = false) (hn : n < 256) : c ≠ UInt8.ofNat n := by
  rintro rfl
  rw [beq_eq_false_iff_ne] at h
  exact h (by simp [Nat.mod_eq_of_lt hn])
theorem sim_bad {s : ByteArray} {i : Nat} {ts : List TN} (hi : i ≤ s.size) (hbad : byteAt s i = none ∨ (∃ h : i < s.size, ((s[i].toNat : Int) == 63) = false ∧ letterB s[i] = false)) : Sim s i ts 2 i ts := by
  refine .inr ⟨by decide, hi, fun op => .one ?_⟩
  rcases hbad with h | ⟨h, h1, h2⟩
  · exact step_due_none h
  · exact step_due_bad (byteAt_lt h) (byte_isnt (n := 63) h1 (by omega)) h2
theorem sim_long {s : ByteArray} {i : Nat} {ts : List TN} (h : i < s.size) (hc : ((s[i].toNat : Int) == 63) = true ∨ (((s[i].toNat : Int) == 63) = false ∧ letterB s[i] = true)) (hl : ts.length = 256) : Sim s i ts 3 i ts := by
  exact .inr ⟨by decide, by omega, fun op => .one (step_due_long (byteAt_lt h) (hc.imp (byte_is (n := 63)) (·.2)) hl)⟩

set_option maxRecDepth 100000 in
set_option maxHeartbeats 1000000 in
theorem term_bad (B : Nat) (s : ByteArray) (i : Nat) (ts : List TN) (w : World) (hs : s.size ≤ 9223372036854775807) (h : Rd w B s i ts) (hbad : byteAt s i = none ∨ (∃ h : i < s.size, ((s[i].toNat : Int) == 63) = false ∧ letterB s[i] = false)) :
    Calls Tryd.prog 31 #[.pointer (some ⟨B, 0, none⟩)] w (TermPost B s i ts w) := by
  have H := Lib.hid h
  obtain ⟨hi, v, hb, ho⟩ := h
  have c0 := hb.cell 0; have c1 := hb.cell 1; have c2 := hb.cell 2
  simp at c0 c1 c2
  obtain ⟨A, c, rfl⟩ := ho.shape
  clear ho
  have hfin := Lib.hid (sim_bad (ts := ts) hi hbad)
  rcases hbad with hbad | ⟨hlt, h63, hl⟩
  · have hlt : i = s.size := by
      unfold byteAt at hbad; split at hbad
      · cases hbad
      · omega
    have hl' : ((i : Int) == s.size) = true := beq_iff_eq.2 (by omega)
    clear hlt hbad
    go_enter Tryd.func31, Tryd.ntmps31
    go_wp2
    go_quiet (fail)
    go_wp2
    go_ret
    exact ⟨2, i, ts, rfl, H.out.drewN _, below_drewN (Below.refl _ _) _, hfin.out⟩
  · have hl' : ((i : Int) == s.size) = false := beq_eq_false_iff_ne.2 (by omega)
    have hl2 : (i : Int) < s.size := by omega
    obtain ⟨t, ht⟩ : ∃ t, s.extract i (i + 1) = t := ⟨_, rfl⟩
    have hc : Hid (rightB t.data.toList = false) := Lib.hid (by rw [← ht, cut_one hlt, right_one]; exact hl)
    have htz : t.size ≤ 9223372036854775807 := by rw [← ht, ByteArray.size_extract]; omega
    have h63' : ((s[i].toNat : Int) != 63) = true := by rw [bne_iff_ne]; exact beq_eq_false_iff_ne.1 h63
    have k1 : IntKind.i64.wrap ((i : Int) + 1) = (i : Int) + 1 := IntWalk.i64_in _ ⟨by omega, by omega⟩
    have k2 : (0 : Int) ≤ (i : Int) + 1 := by omega
    have k3 : ((i : Int) + 1).toNat = i + 1 := by omega
    have k4 : (i : Int) + 1 ≤ s.size := by omega
    have k5 : (i : Int) ≤ (i : Int) + 1 := by omega
    go_enter Tryd.func31, Tryd.ntmps31
    go_wp2
    go_quiet ((go_at_call 23; exact quiet_left (right_any t _ htz)))
    rw [hc.out]
    clear k1 k2 k3 k4 k5 ht
    go_wp2
    go_ret
    exact ⟨2, i, ts, rfl, H.out.drewN _, below_drewN (Below.refl _ _) _, hfin.out⟩

set_option maxRecDepth 100000 in
set_option maxHeartbeats 1000000 in
theorem term_long (B : Nat) (s : ByteArray) (i : Nat) (ts : List TN) (w : World) (hs : s.size ≤ 9223372036854775807) (h : Rd w B s i ts) (hlt : i < s.size) (hc : ((s[i].toNat : Int) == 63) = true ∨ (((s[i].toNat : Int) == 63) = false ∧ letterB s[i] = true)) (hlen : ts.length = 256) :
    Calls Tryd.prog 31 #[.pointer (some ⟨B, 0, none⟩)] w (TermPost B s i ts w) := by
  have H := Lib.hid h
  obtain ⟨hi, v, hb, ho⟩ := h
  have c0 := hb.cell 0; have c1 := hb.cell 1; have c2 := hb.cell 2
  simp at c0 c1 c2
  obtain ⟨A, c, rfl⟩ := ho.shape
  clear ho
  have hfin := Lib.hid (sim_long hlt hc hlen)
  have hl256 : ((ts.length : Int) == 256) = true := beq_iff_eq.2 (by omega)
  clear hlen
  rcases hc with h63 | ⟨h63, hl⟩
  · have hl' : ((i : Int) == s.size) = false := beq_eq_false_iff_ne.2 (by omega)
    have hl2 : (i : Int) < s.size := by omega
    have h63' : ((s[i].toNat : Int) != 63) = false := by rw [bne_eq_false_iff_eq]; exact beq_iff_eq.1 h63
    go_enter Tryd.func31, Tryd.ntmps31
    go_wp2
    go_quiet (fail)
    go_wp2
    go_ret
    exact ⟨3, i, ts, rfl, H.out.drewN _, below_drewN (Below.refl _ _) _, hfin.out⟩
  · have hl' : ((i : Int) == s.size) = false := beq_eq_false_iff_ne.2 (by omega)
    have hl2 : (i : Int) < s.size := by omega
    obtain ⟨t, ht⟩ : ∃ t, s.extract i (i + 1) = t := ⟨_, rfl⟩
    have hc : Hid (rightB t.data.toList = true) := Lib.hid (by rw [← ht, cut_one hlt, right_one]; exact hl)
    have htz : t.size ≤ 9223372036854775807 := by rw [← ht, ByteArray.size_extract]; omega
    have h63' : ((s[i].toNat : Int) != 63) = true := by rw [bne_iff_ne]; exact beq_eq_false_iff_ne.1 h63
    have k1 : IntKind.i64.wrap ((i : Int) + 1) = (i : Int) + 1 := IntWalk.i64_in _ ⟨by omega, by omega⟩
    have k2 : (0 : Int) ≤ (i : Int) + 1 := by omega
    have k3 : ((i : Int) + 1).toNat = i + 1 := by omega
    have k4 : (i : Int) + 1 ≤ s.size := by omega
    have k5 : (i : Int) ≤ (i : Int) + 1 := by omega
    go_enter Tryd.func31, Tryd.ntmps31
    go_wp2
    go_quiet ((go_at_call 23; exact quiet_left (right_any t _ htz)))
    rw [hc.out]
    clear k1 k2 k3 k4 k5 ht
    go_wp2
    go_ret
    exact ⟨3, i, ts, rfl, H.out.drewN _, below_drewN (Below.refl _ _) _, hfin.out⟩
end Go.Proofs.YtgcbnndbeoekgaaDoor
end
section
namespace Go.Proofs.YtgcbnndbeoekgaaDoor
open Go Go.RowKit

theorem byte63 {s : ByteArray} {i : Nat} (h : i < s.size) (h63 : ((s[i].toNat : Int) == 63) = true) : byteAt s i = some 63 := by
  rw [byteAt_lt h]; congr 1
  rw [beq_iff_eq] at h63
  have : s[i].toNat = 63 := by omega
  exact UInt8.toNat.inj this
theorem after_fail {s : ByteArray} {j : Nat} {l : List TN} (h : byteAt s j ≠ some 41) (h2 : byteAt s j ≠ some 44) (h3 : j ≠ s.size) (op : List Nat) : step s (.after j l op) = .fail j 2 := by
  rcases List.eq_nil_or_concat op with rfl | ⟨r, k, e⟩
  · exact step_rest h3
  · rw [List.concat_eq_append] at e; subst e; rw [step_after, if_neg h, if_neg h2]
theorem fig_byte {s : ByteArray} {j : Nat} (hj : j < s.size) (hf : figureB s[j] = true) : byteAt s j ≠ some 41 ∧ byteAt s j ≠ some 44 := by
  have hr := figure_range hf
  rw [byteAt_lt hj]
  constructor
  · intro e; injection e with e; rw [e] at hr; exact absurd hr.1 (by decide)
  · intro e; injection e with e; rw [e] at hr; exact absurd hr.1 (by decide)
theorem DigR.first {s : ByteArray} {i j : Nat} (h : DigR s i j 0) : j = i + 1 := by
  rcases h.2.2.1 with ⟨h, _⟩ | ⟨_, hI, _⟩
  · exact h
  · have := hI.len
    have h1 : 1 ≤ 0 := Nat.le_trans (Nat.one_le_pow _ _ (by omega)) this
    omega
theorem DigR.later {s : ByteArray} {i j m : Nat} (h : DigR s i j m) (hm : 0 < m) : i + 1 < j ∧ numB (cut s (i + 1) j) = m := by
  rcases h.2.2.1 with ⟨_, h⟩ | ⟨h1, hI, h2⟩
  · omega
  · exact ⟨h1, numB_of hI h2⟩
theorem sim_nohole {s : ByteArray} {i j : Nat} {ts l' : List TN} (hlt : i < s.size) (h63 : ((s[i].toNat : Int) == 63) = true) (hlen : ts.length < 256) (hD : DigR s i j 0) (hp : holeP s i j = false) : Sim s i ts 2 j l' := by
  have e := hD.first
  have he := hD.stop hp
  refine .inr ⟨by decide, hD.2.1, fun op => .one ?_⟩
  rw [step_due_nohole (byte63 hlt h63) (by omega) (by omega), e]
theorem sim_bighole {s : ByteArray} {i j m : Nat} {ts l' : List TN} (hlt : i < s.size) (h63 : ((s[i].toNat : Int) == 63) = true) (hlen : ts.length < 256) (hD : DigR s i j m) (hj : j < s.size) (hf : figureB s[j] = true) (hm : 2147483647 < 10 * m + (s[j].toNat - 48)) : Sim s i ts 2 j l' := by
  have hr := figure_range hf
  have hl := hD.later (by omega)
  have he := hD.stop (hD.big hj hf hm)
  have hb := fig_byte hj hf
  refine .inr ⟨by decide, hD.2.1, fun op => (Reach.one (step_due_hole (byte63 hlt h63) (by omega) (by omega))).next ?_⟩
  rw [he]
  exact after_fail hb.1 hb.2 (by omega) op
theorem sim_hole {s : ByteArray} {i j m : Nat} {ts : List TN} (hlt : i < s.size) (h63 : ((s[i].toNat : Int) == 63) = true) (hlen : ts.length < 256) (hD : DigR s i j m) (hp : holeP s i j = false) (hm : 0 < m) : Sim s i ts 0 j (ts ++ [⟨(m : Int), ByteArray.empty, []⟩]) := by
  have hl := hD.later hm
  have he := hD.stop hp
  refine .inl ⟨rfl, by omega, hD.2.1, ⟨_, rfl, by simp⟩, by simp; omega, fun op => .one ?_⟩
  rw [step_due_hole (byte63 hlt h63) (by omega) (by omega), he, hl.2]
theorem set_last {ts : List TN} {a b : TN} {k : Nat} (hk : k = ts.length) : (ts ++ [a]).set k b = ts ++ [b] := by
  subst hk; rw [List.set_append_right _ _ (Nat.le_refl _)]; simp

theorem byte_isnt' {c : UInt8} (h : ((c.toNat : Int) == 63) = false) : c ≠ 63 := by
  rintro rfl
  exact absurd h (by decide)

/-! ### names, and the arguments -/
theorem addArg_mid (ts : List TN) (t : TN) (r : List TN) (x : Nat) : addArg (ts ++ t :: r) ts.length x = ts ++ { t with args := t.args ++ [(x : Int)] } :: r := by
  have h : ts.length < (ts ++ t :: r).length := by simp
  rw [addArg_at h]
  simp
theorem byte_some {s : ByteArray} {i n : Nat} (hn : n < 256) (h : ∃ h : i < s.size, (s[i].toNat : Int) = n) : byteAt s i = some (UInt8.ofNat n) := by
  obtain ⟨h1, h2⟩ := h
  rw [byteAt_lt h1]; congr 1
  have : s[i].toNat = n := by omega
  rw [← this]; simp
theorem byte_none {s : ByteArray} {i n : Nat} (hn : n < 256) (h : ∀ h : i < s.size, (s[i].toNat : Int) ≠ n) : byteAt s i ≠ some (UInt8.ofNat n) := by
  by_cases h1 : i < s.size
  · rw [byteAt_lt h1]
    intro e; injection e with e
    refine h h1 ?_
    rw [e]; simp [Nat.mod_eq_of_lt hn]
  · rw [byteAt_ge h1]; exact fun e => by cases e
theorem name_end {s : ByteArray} {i j : Nat} (hij : i ≤ j) (hj : j ≤ s.size) (h : ∀ k, i ≤ k → k < j → nameP s i k = true) (hs : nameP s i j = false) : nameEnd s i = j := ends_at _ _ _ hij (by omega) h hs
/-- the loop over a name's arguments: it stands ahead of one -/
def ArgR (s : ByteArray) (i : Nat) (ts : List TN) (j : Nat) (t : TN) (r : List TN) : Prop :=
  i < j ∧ j ≤ s.size ∧ (ts ++ t :: r).length ≤ 256 ∧ t.args.length ≤ r.length ∧ ∀ op, Reach s (.due i ts op) (.due j (addArg (ts ++ t :: r) ts.length (ts ++ t :: r).length) (op ++ [ts.length]))
section
variable {s : ByteArray} {i j j' : Nat} {ts r : List TN} {t : TN}
theorem sim_name (hlt : i < s.size) (h63 : ((s[i].toNat : Int) == 63) = false) (hl : letterB s[i] = true) (hlen : ts.length < 256) (he : nameEnd s i = j) (hij : i < j) (hj : j ≤ s.size) (h40 : byteAt s j ≠ some 40) : Sim s i ts 0 j (ts ++ [⟨0, s.extract i j, []⟩]) := by
  subst he
  refine .inl ⟨rfl, hij, hj, ⟨_, rfl, by simp⟩, by simp; omega, fun op => .one ?_⟩
  rw [step_due_name (byteAt_lt hlt) (byte_isnt' h63) hl (by omega) h40]
theorem arg_start (hlt : i < s.size) (h63 : ((s[i].toNat : Int) == 63) = false) (hl : letterB s[i] = true) (hlen : ts.length < 256) (he : nameEnd s i = j) (hij : i < j) (h40 : byteAt s j = some 40) : ArgR s i ts (j + 1) ⟨0, s.extract i j, []⟩ [] := by
  subst he
  have hj : nameEnd s i < s.size := by
    unfold byteAt at h40; split at h40
    · assumption
    · cases h40
  refine ⟨by omega, hj, by simp; omega, by simp, fun op => .one ?_⟩
  rw [step_due_open (byteAt_lt hlt) (byte_isnt' h63) hl (by omega) h40]
  simp
theorem arg_err {err : Int} {l' : List TN} (h : ArgR s i ts j t r) (he : err ≠ 0) (hs : Sim s j (addArg (ts ++ t :: r) ts.length (ts ++ t :: r).length) err j' l') : Sim s i ts err j' l' := by
  rcases hs with ⟨e, _⟩ | ⟨_, h1, h2⟩
  · exact absurd e he
  · exact .inr ⟨he, h1, fun op => (h.2.2.2.2 op).trans (h2 _)⟩
theorem arg_close {l' : List TN} (h : ArgR s i ts j t r) (hs : Sim s j (addArg (ts ++ t :: r) ts.length (ts ++ t :: r).length) 0 j' l') (h41 : byteAt s j' = some 41) : Sim s i ts 0 (j' + 1) l' := by
  rcases hs with ⟨_, h1, h2, ⟨r', h3, h3'⟩, h4, h5⟩ | ⟨e, _⟩
  · have hj : j' < s.size := by
      unfold byteAt at h41; split at h41
      · assumption
      · cases h41
    rw [addArg_mid] at h3
    refine .inl ⟨rfl, by have := h.1; omega, hj, ⟨_, by rw [h3, List.append_assoc], by simp⟩, h4, fun op => ((h.2.2.2.2 op).trans (h5 _)).next ?_⟩
    rw [step_after, if_pos h41]
  · exact absurd rfl e
theorem arg_bad {l' : List TN} (h : ArgR s i ts j t r) (hs : Sim s j (addArg (ts ++ t :: r) ts.length (ts ++ t :: r).length) 0 j' l') (h41 : byteAt s j' ≠ some 41) (h44 : byteAt s j' ≠ some 44) : Sim s i ts 2 j' l' := by
  rcases hs with ⟨_, h1, h2, ⟨r', h3, h3'⟩, h4, h5⟩ | ⟨e, _⟩
  · refine .inr ⟨by decide, h2, fun op => ((h.2.2.2.2 op).trans (h5 _)).next ?_⟩
    rw [step_after, if_neg h41, if_neg h44]
  · exact absurd rfl e
theorem arg_next {l' : List TN} (h : ArgR s i ts j t r) (hs : Sim s j (addArg (ts ++ t :: r) ts.length (ts ++ t :: r).length) 0 j' l') (h41 : byteAt s j' ≠ some 41) (h44 : byteAt s j' = some 44) :
    ∃ t' r', l' = ts ++ t' :: r' ∧ j < j' + 1 ∧ ArgR s i ts (j' + 1) t' r' := by
  rcases hs with ⟨_, h1, h2, ⟨r', h3, h3'⟩, h4, h5⟩ | ⟨e, _⟩
  · have hj : j' < s.size := by
      unfold byteAt at h44; split at h44
      · assumption
      · cases h44
    rw [addArg_mid, List.append_assoc, List.cons_append] at h3
    subst h3
    have hr : 0 < r'.length := List.length_pos_iff.2 h3'
    refine ⟨_, _, rfl, by omega, by have := h.1; omega, hj, h4, by have := h.2.2.2.1; simp; omega, fun op => ((h.2.2.2.2 op).trans (h5 _)).next ?_⟩
    rw [step_after, if_neg h41, if_pos h44]
  · exact absurd rfl e
end
end Go.Proofs.YtgcbnndbeoekgaaDoor
end
section
namespace Go.Proofs.YtgcbnndbeoekgaaDoor
open Go Go.RowKit

/-- the reader's place, read out of memory: for a measure -/
def atOf (B : Nat) (w : World) : Nat := match w.cell? ⟨B, 1, none⟩ with | some (.int _ n) => n.toNat | _ => 0
theorem Rd.atOf {w : World} {B : Nat} {s : ByteArray} {j : Nat} {ts : List TN} (h : Rd w B s j ts) : atOf B w = j := by
  obtain ⟨_, v, hb, _⟩ := h
  have c1 := hb.cell 1
  simp at c1
  unfold YtgcbnndbeoekgaaDoor.atOf; rw [c1]; simp
theorem meas_lt {w w' : World} {B : Nat} {s : ByteArray} {j : Nat} {ts ts' : List TN} (h : Rd w B s (j + 1) ts) (h' : Rd w' B s j ts') (hj : j < s.size) : s.size - YtgcbnndbeoekgaaDoor.atOf B w < s.size - YtgcbnndbeoekgaaDoor.atOf B w' := by
  rw [h.atOf, h'.atOf]; omega
/-- a store into a cell of a node of the reader's -/
theorem Rd.stored {w : World} {B : Nat} {s : ByteArray} {j : Nat} {ts : List TN} {g cap n : Nat} (hj : j ≤ s.size) (hb : Blk w B 74 #[.string s, .int .i64 j, .slice (some ⟨g, 0, none⟩) n cap]) (ho : OwnNodes 58 3 w B (.slice (some ⟨g, 0, none⟩) n cap) ts)
    {i k : Nat} (hi : i < ts.length) (hk : k < 3) {u : Value} {t : TN} (ha : t.args = ts[i].args) (hu : ∀ a, (nodeCells ts[i] a).set k u = nodeCells t a) : Rd (w.setCell ⟨g, i * 3 + k, none⟩ u) B s j (ts.set i t) := by
  have hne : g ≠ B := fun e => ho.ne_blk hb (by decide) (by rw [e]; rfl)
  exact ⟨hj, _, hb.far (fun e => hne e.symm) _, ho.store (by decide) hi hk ha hu⟩
/-- what holds at the head of the loop over a hole's digits -/
def DigL (B : Nat) (s : ByteArray) (i j m : Nat) (ts : List TN) (w wr : World) : Prop := Rd wr B s j ts ∧ Below B w wr ∧ DigR s i j m

set_option maxRecDepth 100000 in
set_option maxHeartbeats 2000000 in
theorem term_hole (B : Nat) (s : ByteArray) (i : Nat) (ts : List TN) (w : World) (hs : s.size ≤ 9223372036854775807) (h : Rd w B s i ts) (hlt : i < s.size) (h63 : ((s[i].toNat : Int) == 63) = true) (hlen : ts.length < 256) (hB : B < w.heap.size) :
    Calls Tryd.prog 31 #[.pointer (some ⟨B, 0, none⟩)] w (TermPost B s i ts w) := by
  have H := Lib.hid h
  obtain ⟨hi, v, hb, ho⟩ := h
  have c0 := hb.cell 0; have c1 := hb.cell 1; have c2 := hb.cell 2
  simp at c0 c1 c2
  obtain ⟨A, c, rfl⟩ := ho.shape
  have hl256 : ((ts.length : Int) == 256) = false := beq_eq_false_iff_ne.2 (by omega)
  have f2 := hb.frozen 2
  have hl' : ((i : Int) == s.size) = false := beq_eq_false_iff_ne.2 (by omega)
  have hl2 : (i : Int) < s.size := by omega
  have h63' : ((s[i].toNat : Int) != 63) = false := by rw [bne_eq_false_iff_eq]; exact beq_iff_eq.1 h63
  go_enter Tryd.func31, Tryd.ntmps31
  go_wp2
  go_quiet (fail)
  go_wp2_with (at_builtin; go_loud (refine wpList_pushNode _ (by decide) rfl _ _ 22 rfl B Tryd.underlying22 tn_info rfl _ ts rfl ((ho.drewN _).alloc _) TN.zero rfl ⟨w.heap.size, 0, none⟩ 1 rfl (news_cells (cs := #[.int .i64 0, .string { data := #[] }, .slice none 0 0]) (Blk.new' (by rfl))) (by unfold maxLen; omega) (by omega) (by simp; omega) ?_))
  intro A1 c1' w1 own1 hg1
  obtain ⟨hb1, hR1⟩ := Rd.pushed hi ((hb.drewN _).alloc _) ((ho.drewN _).alloc _) hg1 own1
  have hbel1 : Below B w w1 := ((below_drewN (Below.refl _ _) _).alloc (by simp; omega) _).grown hg1 (by simp; omega) (fun b e => (ho.ownLt b e).1)
  have HB1 := Lib.hid hbel1
  have d0 := hb1.cell 0; have d1 := hb1.cell 1; have d2 := hb1.cell 2; have g2 := hb1.frozen 2
  simp at d0 d1 d2
  clear own1 hg1 hb1 hbel1 c0 c1 c2 f2 ho hb
  go_wp2_with fail
  refine (is_any B s i (ts ++ [TN.zero]) 63 _ hs hR1).mono ?_
  rintro e w2 ⟨hb2, hcase⟩
  rcases hcase with ⟨rfl, hyes, hR2⟩ | ⟨rfl, hno, _⟩
  rotate_left
  · exact absurd (beq_iff_eq.1 h63) (hno hlt)
  have hb2' : Below B w w2 := (HB1.out.setCell (p := ⟨B, 2, none⟩) (Nat.le_refl _) _).trans hb2
  have HB2 := Lib.hid hb2'
  have HR2 := Lib.hid hR2
  clear hb2 hb2' hR1 hR2 d0 d1 d2 g2 hyes
  have hN : ∀ n : Nat, (ts ++ [TN.zero]).length = ts.length + 1 := fun _ => by simp
  go_wp2_with fail
  go_loopw [4] (fun n wr => ∃ (j m : Nat), n = .int .i64 m ∧ DigL B s i j m (ts ++ [TN.zero]) w wr) (fun _ wr => s.size - atOf B wr)
  case atStart => exact ⟨i + 1, 0, rfl, HR2.out, HB2.out, DigR.start hlt⟩
  case round =>
    obtain ⟨j, m, rfl, hL⟩ := hrel
    have HL := Lib.hid hL
    obtain ⟨⟨hj, v, hb, ho⟩, hbel, hD⟩ := hL
    have hm := hD.le
    have hD' := Lib.hid hD; clear hD; have hD := hD'; clear hD'
    obtain ⟨A3, c3, rfl⟩ := ho.shape
    have c0 := hb.cell 0; have c1 := hb.cell 1; have c2 := hb.cell 2; have f1 := hb.frozen 1
    simp at c0 c1 c2
    clear ho hb hbel
    by_cases hjt : j < s.size
    · have hj2 : (j : Int) < s.size := by omega
      have hr := byte_range s[j]
      by_cases d1 : (48 : Int) ≤ s[j].toNat
      · by_cases d2 : (s[j].toNat : Int) ≤ 57
        · have hf : Hid (figureB s[j] = true) := Lib.hid (by simp [figureB, figureI, d1, d2])
          have k1 : IntKind.u8.wrap ((s[j].toNat : Int) - 48) = (s[j].toNat : Int) - 48 := IntWalk.u8_in _ ⟨by omega, by omega⟩
          have k2 : IntKind.i64.wrap ((s[j].toNat : Int) - 48) = (s[j].toNat : Int) - 48 := IntWalk.i64_in _ ⟨by omega, by omega⟩
          go_wp2
          go_quiet (fail)
          go_wp2
          go_quiet (fail)
          clear k1 k2
          by_cases hz : m = 0 ∧ s[j].toNat = 48
          · have hfin := Lib.hid (show Sim s i ts 2 j (ts ++ [TN.zero]) by
              obtain ⟨e1, e2⟩ := hz
              subst e1
              exact sim_nohole hlt h63 hlen hD.out (hD.out.zero hjt ⟨rfl, e2⟩))
            have z1 : ((m : Int) == 0) = true := beq_iff_eq.2 (by omega)
            have z2 : ((s[j].toNat : Int) - 48 == 0) = true := beq_iff_eq.2 (by omega)
            clear hz
            go_wp2
            go_ret
            exact ⟨2, j, ts ++ [TN.zero], rfl, by simpa using HL.out.1.drewN _, by simpa using below_drewN HL.out.2.1 _, hfin.out⟩
          · by_cases hq : (2147483647 - ((s[j].toNat : Int) - 48)) / 10 < m
            · have hfin := Lib.hid (sim_bighole (l' := ts ++ [TN.zero]) hlt h63 hlen hD.out hjt hf.out (by omega))
              clear hz
              go_wp2
              all_goals go_ret
              all_goals exact ⟨2, j, ts ++ [TN.zero], rfl, by simpa using HL.out.1.drewN _, by simpa using below_drewN HL.out.2.1 _, hfin.out⟩
            · have hnx := Lib.hid (hD.out.next hjt hf.out hz (by omega))
              have hmx : 10 * (m : Int) + ((s[j].toNat : Int) - 48) ≤ 2147483647 := by omega
              have hrd : ∀ nq : Nat, Rd ((wr.drewN nq).setCell ⟨B, 1, none⟩ (.int .i64 ((j : Int) + 1))) B s (j + 1) (ts ++ [TN.zero]) := fun nq => (HL.out.1.drewN nq).to hjt (by simp)
              have hbl : ∀ nq : Nat, Below B w ((wr.drewN nq).setCell ⟨B, 1, none⟩ (.int .i64 ((j : Int) + 1))) := fun nq => (below_drewN HL.out.2.1 nq).setCell (p := ⟨B, 1, none⟩) (Nat.le_refl _) _
              have HRD := Lib.hid hrd; have HBL := Lib.hid hbl
              clear hrd hbl
              by_cases hm0 : m = 0
              · have z2 : ((s[j].toNat : Int) - 48 == 0) = false := beq_eq_false_iff_ne.2 (by omega)
                have z1 : ((m : Int) == 0) = true := beq_iff_eq.2 (by omega)
                have hv : 10 * (m : Int) + ((s[j].toNat : Int) - 48) = (s[j].toNat : Int) - 48 := by omega
                have HV := Lib.hid hv
                clear hz hm0 hv
                go_wp2
                go_roundw
                case rel => exact ⟨j + 1, 10 * m + (s[j].toNat - 48), by first | go_num | (rw [← HV.out]; go_num), HRD.out _, HBL.out _, hnx.out⟩
                case measure => exact meas_lt (HRD.out _) HL.out.1 hjt
              · have z1 : ((m : Int) == 0) = false := beq_eq_false_iff_ne.2 (by omega)
                clear hz hm0
                go_wp2
                go_roundw
                case rel => exact ⟨j + 1, 10 * m + (s[j].toNat - 48), by go_num, HRD.out _, HBL.out _, hnx.out⟩
                case measure => exact meas_lt (HRD.out _) HL.out.1 hjt
        · have hp := Lib.hid (hD.out.nofig hjt (by simp [figureB, figureI, d2]))
          have d3 : decide ((s[j].toNat : Int) ≤ 57) = false := decide_eq_false d2
          go_wp2
          go_quiet (fail)
          by_cases hm0 : m = 0
          · subst hm0
            have hfin := Lib.hid (sim_nohole (l' := ts ++ [TN.zero]) hlt h63 hlen hD.out hp.out)
            go_wp2
            go_ret
            exact ⟨2, j, ts ++ [TN.zero], rfl, HL.out.1.drewN _, below_drewN HL.out.2.1 _, hfin.out⟩
          · have hm1 : ((m : Int) == 0) = false := beq_eq_false_iff_ne.2 (by omega)
            have hfin := Lib.hid (sim_hole hlt h63 hlen hD.out hp.out (Nat.pos_of_ne_zero hm0))
            have HR3 := Lib.hid (HL.out.1)
            obtain ⟨_, v4, hb, ho⟩ := HR3.out
            obtain ⟨g, cap, av, rfl, hBg, hg, e0, e1, e2, q0, q1, q2, _, _, hcap, hcap2⟩ := ho.at_ (i := ts.length) (by simp)
            have c2' := hb.cell 2
            simp at c2' e0 e1 e2
            have HO := Lib.hid ho; have HB := Lib.hid hb
            clear ho hb c2
            have HST := Lib.hid (fun nq : Nat => Rd.stored (k := 0) (u := .int .i64 m) (t := ⟨m, ByteArray.empty, []⟩) HR3.out.1 (HB.out.drewN nq) (HO.out.drewN nq) (i := ts.length) (by simp) (by decide) (by simp [TN.zero]) (by intro a; simp [nodeCells, TN.zero]))
            have HBL := Lib.hid (fun nq : Nat => (below_drewN HL.out.2.1 nq).setCell (p := ⟨g, ts.length * 3, none⟩) hBg (.int .i64 m))
            go_wp2
            go_ret
            refine ⟨0, j, _, rfl, ?_, HBL.out _, hfin.out⟩
            have := HST.out nq
            rw [set_last rfl] at this
            exact this

      · have hp := Lib.hid (hD.out.nofig hjt (by simp [figureB, figureI, d1]))
        have d3 : decide ((48 : Int) ≤ s[j].toNat) = false := decide_eq_false d1
        go_wp2
        go_quiet (fail)
        by_cases hm0 : m = 0
        · subst hm0
          have hfin := Lib.hid (sim_nohole (l' := ts ++ [TN.zero]) hlt h63 hlen hD.out hp.out)
          go_wp2
          go_ret
          exact ⟨2, j, ts ++ [TN.zero], rfl, HL.out.1.drewN _, below_drewN HL.out.2.1 _, hfin.out⟩
        · have hm1 : ((m : Int) == 0) = false := beq_eq_false_iff_ne.2 (by omega)
          have hfin := Lib.hid (sim_hole hlt h63 hlen hD.out hp.out (Nat.pos_of_ne_zero hm0))
          have HR3 := Lib.hid (HL.out.1)
          obtain ⟨_, v4, hb, ho⟩ := HR3.out
          obtain ⟨g, cap, av, rfl, hBg, hg, e0, e1, e2, q0, q1, q2, _, _, hcap, hcap2⟩ := ho.at_ (i := ts.length) (by simp)
          have c2' := hb.cell 2
          simp at c2' e0 e1 e2
          have HO := Lib.hid ho; have HB := Lib.hid hb
          clear ho hb c2
          have HST := Lib.hid (fun nq : Nat => Rd.stored (k := 0) (u := .int .i64 m) (t := ⟨m, ByteArray.empty, []⟩) HR3.out.1 (HB.out.drewN nq) (HO.out.drewN nq) (i := ts.length) (by simp) (by decide) (by simp [TN.zero]) (by intro a; simp [nodeCells, TN.zero]))
          have HBL := Lib.hid (fun nq : Nat => (below_drewN HL.out.2.1 nq).setCell (p := ⟨g, ts.length * 3, none⟩) hBg (.int .i64 m))
          go_wp2
          go_ret
          refine ⟨0, j, _, rfl, ?_, HBL.out _, hfin.out⟩
          have := HST.out nq
          rw [set_last rfl] at this
          exact this

    · have hp := Lib.hid (holeP_ge (i := i) hjt)
      have hj2 : decide ((j : Int) < s.size) = false := decide_eq_false (by omega)
      go_wp2
      go_quiet (fail)
      by_cases hm0 : m = 0
      · subst hm0
        have hfin := Lib.hid (sim_nohole (l' := ts ++ [TN.zero]) hlt h63 hlen hD.out hp.out)
        go_wp2
        go_ret
        exact ⟨2, j, ts ++ [TN.zero], rfl, HL.out.1.drewN _, below_drewN HL.out.2.1 _, hfin.out⟩
      · have hm1 : ((m : Int) == 0) = false := beq_eq_false_iff_ne.2 (by omega)
        have hfin := Lib.hid (sim_hole hlt h63 hlen hD.out hp.out (Nat.pos_of_ne_zero hm0))
        have HR3 := Lib.hid (HL.out.1)
        obtain ⟨_, v4, hb, ho⟩ := HR3.out
        obtain ⟨g, cap, av, rfl, hBg, hg, e0, e1, e2, q0, q1, q2, _, _, hcap, hcap2⟩ := ho.at_ (i := ts.length) (by simp)
        have c2' := hb.cell 2
        simp at c2' e0 e1 e2
        have HO := Lib.hid ho; have HB := Lib.hid hb
        clear ho hb c2
        have HST := Lib.hid (fun nq : Nat => Rd.stored (k := 0) (u := .int .i64 m) (t := ⟨m, ByteArray.empty, []⟩) HR3.out.1 (HB.out.drewN nq) (HO.out.drewN nq) (i := ts.length) (by simp) (by decide) (by simp [TN.zero]) (by intro a; simp [nodeCells, TN.zero]))
        have HBL := Lib.hid (fun nq : Nat => (below_drewN HL.out.2.1 nq).setCell (p := ⟨g, ts.length * 3, none⟩) hBg (.int .i64 m))
        go_wp2
        go_ret
        refine ⟨0, j, _, rfl, ?_, HBL.out _, hfin.out⟩
        have := HST.out nq
        rw [set_last rfl] at this
        exact this

end Go.Proofs.YtgcbnndbeoekgaaDoor
end
