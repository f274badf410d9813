import Derived.Test.YtgcbnndbeoekgaaDoorProg
import Derived.Test.YtgcbnndbeoekgaaDoorBase
import Derived.Shelf.Strings.Builder1
import Derived.Test.YtgcbnndbeoekgaaDoorShelf
import Derived.Test.YtgcbnndbeoekgaaDoorTextR
import Derived.Lib.AppendIntMem
import Derived.Test.YtgcbnndbeoekgaaDoorFindB
import Derived.Test.YtgcbnndbeoekgaaDoorAwakeP
import Derived.Lib.QuietBelow
import Derived.Test.YtgcbnndbeoekgaaDoorFewP
import Derived.Test.YtgcbnndbeoekgaaDoorData15
set_option linter.unusedSimpArgs false
set_option linter.unusedVariables false
section
namespace Go.Proofs.YtgcbnndbeoekgaaDoor
open Go Go.RowKit


theorem builder_size : (Tryd.prog.info? 64).map (·.size) = some 2 := by kernel_rfl
theorem builder_lies : liesAt Tryd.prog Tryd.prog.depth 64 (2 / Tryd.prog.cellsOf 64) 0 64 1 = true := by kernel_rfl
theorem byte_info : (Tryd.prog.info? 5).map (fun i => (i.zero, i.size, i.bytes)) = some (some (.int .u8 0), 1, 1) := by kernel_rfl

set_option maxHeartbeats 1000000 in
set_option maxRecDepth 100000 in
theorem copyCheck_used (b : Nat) (w : World) (h0 : w.cell? ⟨b, 0, none⟩ = some (.pointer (some ⟨b, 0, none⟩))) :
    Calls Tryd.prog 49 #[.pointer (some ⟨b, 0, none⟩)] w fun e w' => e = .returned (.tuple #[]) ∧ w' = w := by
  obtain ⟨j, hj, _⟩ := Option.map_eq_some_iff.1 builder_size
  go_enter Tryd.func49, Tryd.ntmps49
  go_wp2
  rw [Lib.run_neq_ptr_same w _ Tryd.underlying61 hj]
  go_wp2
  go_end0
  exact ⟨rfl, rfl⟩

set_option maxHeartbeats 1000000 in
set_option maxRecDepth 100000 in
theorem copyCheck_fresh (b : Nat) (w : World) (h0 : w.cell? ⟨b, 0, none⟩ = some (.pointer none)) (hsh : w.shape? b = some (64, 2)) (hfz : w.frozen? ⟨b, 0, none⟩ = false) :
    Calls Tryd.prog 49 #[.pointer (some ⟨b, 0, none⟩)] w fun e w' => e = .returned (.tuple #[]) ∧ w' = w.setCell ⟨b, 0, none⟩ (.pointer (some ⟨b, 0, none⟩)) := by
  obtain ⟨j, hj, hjs⟩ := Option.map_eq_some_iff.1 builder_size
  go_enter Tryd.func49, Tryd.ntmps49
  go_wp2
  rw [Lib.run_to_unsafe w ⟨b, 0, none⟩ Tryd.underlying61 Tryd.underlying113 hj (by rw [hjs]; decide) hsh (Nat.zero_lt_succ 1)]
  simp only [Result.andThen]
  rw [Oper.upon_value]
  go_wp2
  rw [run_callFunc_extern Tryd.func53 (by kernel_rfl) (by kernel_rfl) (by kernel_rfl) (e := Extern.AbiNoEscape.same) (by kernel_rfl)]
  rw [Lib.run_noEscape]
  simp only [Result.andThen]
  rw [Oper.upon_value]
  go_wp2
  rw [Lib.run_from_unsafe w ⟨b, 0, none⟩ Tryd.underlying113 Tryd.underlying61 hj hsh builder_lies]
  simp only [Result.andThen]
  rw [Oper.upon_value]
  go_wp2
  go_end0
  exact ⟨rfl, rfl⟩

theorem copyCheck_any (B b : Nat) (bs : List Value) (w : World) (h : Lib.IsBuilder 64 5 B b bs w) :
    Calls Tryd.prog 49 #[.pointer (some ⟨b, 0, none⟩)] w fun e w' => e = .returned (.tuple #[]) ∧ (Lib.BuilderAt 64 5 B b (.pointer (some ⟨b, 0, none⟩)) bs w' ∧ Below B w w') := by
  rcases h with h | h
  · refine (copyCheck_fresh b w h.cell0 h.shape h.frozen0).mono ?_
    rintro e w' ⟨rfl, rfl⟩
    exact ⟨rfl, h.used _, (Below.refl B w).setCell (p := ⟨b, 0, none⟩) h.1 _⟩
  · refine (copyCheck_used b w h.cell0).mono ?_
    rintro e w' ⟨rfl, rfl⟩
    exact ⟨rfl, h, Below.refl B _⟩

set_option maxHeartbeats 1000000 in
set_option maxRecDepth 100000 in
theorem writeString_any (B b : Nat) (bs : List Value) (s : ByteArray) (w : World) (h : Lib.IsBuilder 64 5 B b bs w) (hlen : bs.length + s.size ≤ 140737488355328) (hBw : B ≤ w.heap.size) :
    Calls Tryd.prog 39 #[.pointer (some ⟨b, 0, none⟩), .string s] w fun e w' => e = .returned (.tuple #[.int .i64 s.size, .nilIface]) ∧ (Lib.BuilderAt 64 5 B b (.pointer (some ⟨b, 0, none⟩)) (bs ++ Lib.strCells s) w' ∧ Below B w w') := by
  obtain ⟨i0, hi, hz0, hz1, hz2⟩ := info_parts byte_info
  go_enter Tryd.func39, Tryd.ntmps39
  go_wp2_with (go_at_call 49; refine (copyCheck_any B b bs _ h).mono ?_)
  rintro e w1 ⟨rfl, h1, hb1⟩
  obtain ⟨hB, v, hbk, hown, hne⟩ := h1
  have c0 : w1.cell? ⟨b, 0, none⟩ = some (.pointer (some ⟨b, 0, none⟩)) := by rw [Lib.cell_of_heap hbk]; rfl
  have c1 : w1.cell? ⟨b, 1, none⟩ = some v := by rw [Lib.cell_of_heap hbk]; rfl
  go_wp2_with (at_builtin; refine Lib.wpList_append_own_string _ rfl _ _ 62 9 rfl B 5 i0 Tryd.underlying62 Tryd.underlying9 hi hz0 hz1 hz2 _ _ _ rfl hown s rfl ?c3 ?c4 ?c5 ?_)
  case c3 => unfold maxLen; omega
  case c4 => omega
  case c5 => have := hb1.size; omega
  intro v' w2 hown' hgrow _
  have hlt : b < w1.heap.size := by
    rcases Nat.lt_or_ge b w1.heap.size with h' | h'
    · exact h'
    · simp [Array.getElem?_eq_none h'] at hbk
  have hb2 : w2.heap[b]? = some (.cells #[.pointer (some ⟨b, 0, none⟩), v] 64 (0, 0)) := by
    rw [hgrow.block b hlt (fun e => hne e.symm)]
    exact hbk
  have d0 : w2.cell? ⟨b, 0, none⟩ = some (.pointer (some ⟨b, 0, none⟩)) := by rw [Lib.cell_of_heap hb2]; rfl
  have d1 : w2.cell? ⟨b, 1, none⟩ = some v := by rw [Lib.cell_of_heap hb2]; rfl
  have f1 : w2.frozen? ⟨b, 1, none⟩ = false := Lib.frozen_of_heap hb2 1
  obtain ⟨ao, n', cap, rfl⟩ : ∃ ao n' cap, v' = .slice ao n' cap := by
    rcases hown'.2 with ⟨hv, _⟩ | ⟨g, cap, cur, hv, _⟩
    · exact ⟨_, _, _, hv⟩
    · exact ⟨_, _, _, hv⟩
  go_wp2
  go_ret2
  refine ⟨rfl, ?_, ?_⟩
  · exact Lib.BuilderAt.put (T := 64) (e := 5) hB hb2 (bs' := bs ++ Lib.strCells s) (by simpa [Lib.strCells_length] using hown') (by decide)
  · exact (hb1.grown hgrow (by have := hb1.size; omega) (fun k hk => (hown.lt k hk).1)).setCell (p := ⟨b, 1, none⟩) hB _
end Go.Proofs.YtgcbnndbeoekgaaDoor
end
section
/- a Builder's WriteByte -/
namespace Go.Proofs.YtgcbnndbeoekgaaDoor
open Go Go.RowKit

set_option maxHeartbeats 2000000 in
set_option maxRecDepth 100000 in
theorem writeByte_any (B b : Nat) (bs : List Value) (c : Int) (w : World) (h : Lib.IsBuilder 64 5 B b bs w) (hlen : bs.length + 1 ≤ 140737488355328) (hBw : B ≤ w.heap.size) :
    Calls Tryd.prog 41 #[.pointer (some ⟨b, 0, none⟩), .int .u8 c] w fun e w' => e = .returned .nilIface ∧ (Lib.BuilderAt 64 5 B b (.pointer (some ⟨b, 0, none⟩)) (bs ++ [.int .u8 c]) w' ∧ Below B w w') := by
  obtain ⟨i0, hi, hz0, hz1, hz2⟩ := info_parts byte_info
  go_enter Tryd.func41, Tryd.ntmps41
  go_wp2_with (go_at_call 49; refine (copyCheck_any B b bs _ h).mono ?_)
  rintro e w1 ⟨rfl, h1, hb1⟩
  obtain ⟨hB, v, hbk, hown, hne⟩ := h1
  have c0 : w1.cell? ⟨b, 0, none⟩ = some (.pointer (some ⟨b, 0, none⟩)) := by rw [Lib.cell_of_heap hbk]; rfl
  have c1 : w1.cell? ⟨b, 1, none⟩ = some v := by rw [Lib.cell_of_heap hbk]; rfl
  go_wp2_with (at_builtin; refine wpList_append_own _ rfl _ _ 62 rfl B 5 i0 (.int .u8 0) 1 1 Tryd.underlying62 hi hz0 hz1 hz2 rfl (by decide) _ _ _ rfl (hown.alloc _) ⟨w1.heap.size, 0, none⟩ 1 1 [.int .u8 c] rfl rfl ?c1 ?c2 ?c3 ?c4 ?c5 ?_)
  case c1 =>
    intro j u hj
    match j, hj with
    | 0, hj => simp at hj; subst hj; simp [Addr.add]
  case c2 => intro u hu; simp at hu; subst hu; rfl
  case c3 => unfold maxLen; omega
  case c4 => omega
  case c5 => have := hb1.size; simp; omega
  intro v' w2 hown' hgrow _
  have hlt : b < w1.heap.size := by
    rcases Nat.lt_or_ge b w1.heap.size with h' | h'
    · exact h'
    · simp [Array.getElem?_eq_none h'] at hbk
  have hb2 : w2.heap[b]? = some (.cells #[.pointer (some ⟨b, 0, none⟩), v] 64 (0, 0)) := by
    rw [hgrow.block b (by simp; omega) (fun e => hne e.symm), Lib.alloc_old w1 _ b hlt]
    exact hbk
  have d0 : w2.cell? ⟨b, 0, none⟩ = some (.pointer (some ⟨b, 0, none⟩)) := by rw [Lib.cell_of_heap hb2]; rfl
  have d1 : w2.cell? ⟨b, 1, none⟩ = some v := by rw [Lib.cell_of_heap hb2]; rfl
  have f1 : w2.frozen? ⟨b, 1, none⟩ = false := Lib.frozen_of_heap hb2 1
  obtain ⟨g, cap, rfl⟩ : ∃ g cap, v' = .slice (some ⟨g, 0, none⟩) (bs.length + 1) cap := by
    rcases hown'.2 with ⟨_, h0⟩ | ⟨g, cap, cur, hv, _⟩
    · omega
    · exact ⟨g, cap, hv⟩
  go_wp2
  go_ret
  refine ⟨rfl, ?_, ?_⟩
  · exact Lib.BuilderAt.put (T := 64) (e := 5) hB hb2 (bs' := bs ++ [.int .u8 c]) (by simpa using hown') (by decide)
  · exact ((hb1.alloc (by have := hb1.size; omega) _).grown hgrow (by have := hb1.size; simp; omega) (fun k hk => (hown.lt k hk).1)).setCell (p := ⟨b, 1, none⟩) hB _
end Go.Proofs.YtgcbnndbeoekgaaDoor
end
section
/- a term's text, as the program has it: with a Builder -/
namespace Go.Proofs.YtgcbnndbeoekgaaDoor
open Go Go.RowKit

theorem digs_dec : ∀ n, digs n = Lib.decDigits n := fun n => by
  induction n using Nat.strongRecOn with
  | ind n ih =>
    by_cases h : n < 10
    · rw [digs_small h, Lib.decDigits, dif_pos h]
    · rw [digs_big h, ih (n / 10) (by omega), Lib.decDigits.eq_def n, dif_neg h]
/-- a builder that holds these bytes -/
def HoldsB (w : World) (B b : Nat) (xs : List UInt8) : Prop := Lib.IsBuilder 64 5 B b (Lib.byteCells xs) w
theorem HoldsB.below {w w' : World} {B b : Nat} {xs : List UInt8} (h : HoldsB w B b xs) (hb : Below w.heap.size w w') : HoldsB w' B b xs := by
  have key : ∀ p, Lib.BuilderAt 64 5 B b p (Lib.byteCells xs) w → Lib.BuilderAt 64 5 B b p (Lib.byteCells xs) w' := fun p h => by
    have hlt := h.lt
    obtain ⟨h1, v, h2, h3, h4⟩ := h
    exact ⟨h1, v, (hb.block b hlt).trans h2, h3.kept (row := none) ⟨hb.os, hb.tape, hb.output, hb.size, fun k hk _ => hb.block k hk⟩ (by cases hv : v.ownBlock <;> simp), h4⟩
  exact h.imp (key _) (key _)
set_option maxRecDepth 100000 in
theorem writeS_any (B b : Nat) (xs s : List UInt8) (w : World) (h : HoldsB w B b xs) (hl : xs.length + s.length ≤ 140737488355328) (hB : B ≤ w.heap.size) :
    Calls Tryd.prog 39 #[.pointer (some ⟨b, 0, none⟩), .string (byt s)] w fun e w' => ∃ v, e = .returned v ∧ HoldsB w' B b (xs ++ s) ∧ Below B w w' :=
  (writeString_any B b (Lib.byteCells xs) (byt s) w h (by rw [Lib.byteCells_length]; exact hl) hB).mono fun e w' ⟨h1, h2, h3⟩ => ⟨_, h1, by unfold HoldsB; rw [Lib.byteCells_append]; exact .inr h2, h3⟩
set_option maxRecDepth 100000 in
theorem writeB_any (B b : Nat) (xs : List UInt8) (k : Int) (x : UInt8) (w : World) (hk : k = x.toNat) (h : HoldsB w B b xs) (hl : xs.length + 1 ≤ 140737488355328) (hB : B ≤ w.heap.size) :
    Calls Tryd.prog 41 #[.pointer (some ⟨b, 0, none⟩), .int .u8 k] w fun e w' => e = .returned .nilIface ∧ HoldsB w' B b (xs ++ [x]) ∧ Below B w w' := by
  subst hk
  exact (writeByte_any B b (Lib.byteCells xs) _ w h (by rw [Lib.byteCells_length]; exact hl) hB).mono fun e w' ⟨h1, h2, h3⟩ => ⟨h1, by unfold HoldsB; rw [Lib.byteCells_append]; exact .inr h2, h3⟩
set_option maxRecDepth 100000 in
theorem ushowN_any (n : Nat) (h1 : 1 ≤ n) (h2 : n ≤ 2147483647) (B : Nat) (w : World) (ht : Lib.TabBelow Tryd.prog B w "internal/strconv.uint64pow10" .u64 Lib.pow10Tab) :
    Calls Tryd.prog 40 #[.int .i64 n] w fun e w' => e = .returned (.string (byt (digs n))) ∧ Below w.heap.size w w' := by
  have hc := Tryd.strconv_FormatInt_10 n (by omega) (by omega) w ht.here
  have e : (⟨(Lib.itoa n).toArray⟩ : ByteArray) = byt (digs n) := by
    unfold Lib.itoa byt
    rw [if_neg (by omega), Int.toNat_natCast, digs_dec]
  rw [e] at hc
  go_enter Tryd.func40, Tryd.ntmps40
  go_wp2_with (go_at_call 50; refine hc.mono ?_)
  rintro _ w1 ⟨rfl, k, os, rfl⟩
  have HB1 : Hid (Below w.heap.size w (Sort.grow (w.drewN k) os)) := Lib.hid (Lib.below_grow _ w (Nat.le_refl _) k os)
  go_wp2
  go_ret
  exact ⟨rfl, HB1.out⟩

set_option maxRecDepth 100000 in
set_option maxHeartbeats 4000000 in
theorem ushow_any (d : Nat) : ∀ (A : Option Addr) (c : Nat) (l : List TN) (T : Fo) (o : Nat) (w : World) (F : Nat → Prop) (B b : Nat) (xs : List UInt8), T.size ≤ d → T.one → T.wf → Seg l o T → l.length ≤ 256 → l.length ≤ c → c ≤ maxLen → (∀ q, F q → q < B) → RowOf 3 ETN w F A l →
    HoldsB w B b xs → xs.length + 20000 * d ≤ 140737488355328 → B ≤ w.heap.size → Lib.TabBelow Tryd.prog B w "internal/strconv.uint64pow10" .u64 Lib.pow10Tab →
    Calls Tryd.prog 25 #[.pointer (some ⟨b, 0, none⟩), .slice A l.length c, .int .i64 o] w fun e w' => e = .returned (.tuple #[]) ∧ HoldsB w' B b (xs ++ T.txt false) ∧ Below B w w' := by
  induction d with
  | zero => intro A c l T o w F B b xs hd h1; have := Fo.one_size h1; omega
  | succ d ih =>
    intro A c l T o w F B b xs hd h1 hw hsg hl hlc hc hF hr hbu hxl hBw htb
    have hTs := hsg.le (Fo.one_size h1)
    have hol : o < l.length := by have := Fo.one_size h1; omega
    obtain ⟨b0, off, S, k, rfl, hbF, d0, d1, d2, hk1, hk2, hrow⟩ := nodes_at hr hol
    have hbw := Nat.lt_of_lt_of_le (hF b0 hbF) hBw
    have o0 : (0 : Int) ≤ o := by omega
    have o1 : (o : Int) < l.length := by omega
    have hc2 := hc
    unfold maxLen at hc
    rcases Fo.one_cases h1 with ⟨n, rfl⟩ | ⟨nm, K, rfl⟩
    · obtain ⟨_, hat⟩ := hsg.hole
      obtain ⟨hn1, hn2, _⟩ := hw
      rw [hat] at d0 d1 d2 hk1
      simp only [List.length_nil] at d0 d1 d2 hk1
      have hdl := digs_len 9 n (by omega)
      have HT : Hid ((⟨#[63]⟩ : ByteArray) ++ byt (digs n) = byt ((Fo.hole n .nil).txt false)) := Lib.hid (by rw [hole_txt]; exact byt_app [63] (digs n))
      have HTL : Hid (xs.length + ((Fo.hole n .nil).txt false).length ≤ 140737488355328) := Lib.hid (by
        have e : ((Fo.hole n .nil).txt false).length = (digs n).length + 1 := by rw [hole_txt]; rfl
        omega)
      have hdz : (byt (digs n)).size ≤ 10 := hdl
      have n0 : (0 : Int) < n := by omega
      have n0' : 0 < n := by omega
      have HNS := Lib.hid (ushowN_any n hn1 hn2 B w htb)
      have HBU := Lib.hid hbu
      clear ih hrow hat hr hTs hsg hd h1 hbu htb hxl hdl
      go_enter Tryd.func25, Tryd.ntmps25
      go_wp2_with fail
      refine HNS.out.mono ?_
      rintro _ w1 ⟨rfl, hb1⟩
      have HB1 : Hid (Below B w w1) := Lib.hid (hb1.mono hBw)
      have HBU1 : Hid (HoldsB w1 B b xs) := Lib.hid (HBU.out.below hb1)
      have HWS := Lib.hid (writeS_any B b xs ((Fo.hole n .nil).txt false) w1 HBU1.out HTL.out (Nat.le_trans hBw hb1.size))
      rw [← HT.out] at HWS
      clear hb1 HNS
      go_wp2_with fail
      refine HWS.out.mono ?_
      rintro _ w2 ⟨v2, rfl, hx2, hb2⟩
      have HX2 := Lib.hid hx2; have HB2 := Lib.hid (HB1.out.trans hb2)
      clear hx2 hb2 d0 d1 d2
      go_wp2
      refine bodyPost_ret (results_none rfl _ _ _) rfl ?_
      exact ⟨rfl, HX2.out, HB2.out⟩
    · obtain ⟨⟨_, hat⟩, hsK⟩ := hsg.app
      rw [hat] at d0 d1 d2 hk1 hrow
      simp only at d0 d1 d2 hk1 hrow
      obtain ⟨hn1, hwK, _⟩ := hw
      have hKs : K.size ≤ d ∧ K.size ≤ 256 := by
        have e : (Fo.app nm K .nil).size = 1 + K.size + 0 := rfl
        omega
      obtain ⟨hKd, hK6⟩ := hKs
      have HREC : Hid (∀ (T' : Fo) (o' : Nat) (ys : List UInt8) (w' : World), Below B w w' → HoldsB w' B b ys → ys.length + 20000 * d ≤ 140737488355328 → T'.size ≤ d → T'.one → T'.wf → Seg l o' T' → Calls Tryd.prog 25 #[.pointer (some ⟨b, 0, none⟩), .slice (some ⟨b0, off, none⟩) l.length c, .int .i64 o'] w' fun e w2 => e = .returned (.tuple #[]) ∧ HoldsB w2 B b (ys ++ T'.txt false) ∧ Below B w' w2) := Lib.hid (fun T' o' ys w' hb hy hyl a1 a2 a3 a4 => ih _ c l T' o' w' F B b ys a1 a2 a3 a4 hl hlc hc2 hF (hr.keep ETN.stays (Keep.below hb hF) (fun _ h => h)) hy hyl (Nat.le_trans hBw hb.size) (htb.on hb))
      have HP0 : Hid (Part l o K .nil K 0) := Lib.hid (Part.start hwK hsK)
      have HOF : Hid ((K.offs (o + 1)).length = K.cnt) := Lib.hid (Fo.offs_len K (o + 1))
      have HNX : Hid (∀ A R k, Part l o K A R k → k < (K.offs (o + 1)).length → ∃ T r, T.one ∧ T.wf ∧ Seg l (o + 1 + A.size) T ∧ (∃ hk' : k < (K.offs (o + 1)).length, (K.offs (o + 1))[k] = ((o + 1 + A.size : Nat) : Int)) ∧ Part l o K (A.app2 T) r (k + 1) ∧ T.size + A.size ≤ K.size) := Lib.hid (fun A R k h hk => h.next (by rw [← HOF.out]; exact hk))
      have HTX : Hid (nm.data.toList ++ (parT K ++ (if K.cnt = 0 then [] else [41])) = (Fo.app nm K .nil).txt false) := Lib.hid (parT_end nm K)
      have HWF : Hid (∀ A R k, Part l o K A R k → A.wf ∧ A.size ≤ K.size) := Lib.hid (fun A R k h => by
        have h2 := hwK
        rw [h.eq] at h2
        have h3 := congrArg Fo.size h.eq
        rw [Fo.size_app2] at h3
        exact ⟨(Fo.wf_app2_iff.1 h2).1, by omega⟩)
      have hnl := name_len hn1
      have HNM : Hid (nm.data.toList.length ≤ 32) := Lib.hid hnl
      have HNB : Hid (byt nm.data.toList = nm) := Lib.hid (byt_of nm)
      obtain ⟨la, hla⟩ : ∃ la, K.offs (o + 1) = la := ⟨_, rfl⟩
      rw [hla] at d2 hk1 hrow HOF
      have HNX : Hid (∀ A R k, Part l o K A R k → k < la.length → ∃ T r, T.one ∧ T.wf ∧ Seg l (o + 1 + A.size) T ∧ (∃ hk' : k < la.length, la[k] = ((o + 1 + A.size : Nat) : Int)) ∧ Part l o K (A.app2 T) r (k + 1) ∧ T.size + A.size ≤ K.size) := Lib.hid (by subst hla; exact HNX.out)
      have HROW := Lib.hid hrow
      have hkm := hk2
      unfold maxLen at hkm
      have hlal : la.length ≤ 256 := by rw [HOF.out]; have := Fo.cnt_size K; omega
      have HWS := Lib.hid (writeS_any B b xs nm.data.toList w hbu (by have := HNM.out; omega) hBw)
      rw [HNB.out] at HWS
      have HXS : Hid (xs.length + 20000 + 20000 * d ≤ 140737488355328) := Lib.hid (by omega)
      have HFF := Lib.hid hF
      have D : Hid (∀ w', Below B w w' → w'.cell? ⟨b0, off + o * 3 + 2, none⟩ = some (.slice S la.length k)) := Lib.hid (fun w' hb => (hb.cell (p := ⟨b0, off + o * 3 + 2, none⟩) (hF b0 hbF)).trans d2)
      clear hat hla hr ih hTs hsg hd h1 hrow hk2 hsK hwK hn1 hbu htb hxl
      go_enter Tryd.func25, Tryd.ntmps25
      go_wp2_with fail
      refine HWS.out.mono ?_
      rintro _ w1 ⟨v1, rfl, hx1, hb1⟩
      have HB1 := Lib.hid hb1; have HX1 := Lib.hid hx1
      have e2 := D.out w1 hb1
      clear d0 d1 d2 hb1 hx1 HWS
      go_upto_region 4 with fail
      clear e2
      go_loopg [36] la.length (fun g s36 wx => ∃ (j : Nat) (P R : Fo), s36 = .int .i64 j ∧ g = la.length - j ∧ j ≤ la.length ∧ Part l o K P R j ∧ Below B w wx ∧ HoldsB wx B b (xs ++ (nm.data.toList ++ parT P)))
      case atStart => exact ⟨0, .nil, K, rfl, rfl, Nat.zero_le _, HP0.out, HB1.out, by rw [show parT .nil = [] from rfl, List.append_nil]; exact HX1.out⟩
      case round =>
        clear HB1 HX1
        obtain ⟨j, P, R, rfl, rfl, hj, hP, hb, hx⟩ := hrel
        have HB := Lib.hid hb; have HX := Lib.hid hx; have HP := Lib.hid hP
        have hsz := hb.size
        have j0 : (0 : Int) ≤ j := by omega
        have HXL : Hid ((nm.data.toList ++ parT P).length ≤ 19999) := Lib.hid (by
          obtain ⟨e1, e2⟩ := HWF.out P R j hP
          have := parT_len e1
          have := HNM.out
          rw [List.length_append]; omega)
        have HXL2 : Hid ((xs ++ (nm.data.toList ++ parT P)).length + 1 + 20000 * d ≤ 140737488355328) := Lib.hid (by have := HXL.out; have := HXS.out; rw [List.length_append]; omega)
        by_cases hjl : j < la.length
        · obtain ⟨T', r, q1, q2, q3, ⟨q4, q5⟩, q6, q7⟩ := HNX.out P R j hP hjl
          obtain ⟨g, o2, rfl, hgF, a1⟩ := ints_at (RowOf.keep EInt.stays (Keep.below hb hF) (F' := F) (fun _ h => h) HROW.out) hjl
          rw [q5] at a1
          have HPN := Lib.hid q6
          have HPT := Lib.hid (parT_next (A := P) q1)
          have HCN := Lib.hid hP.cnt
          have HQ : Hid (T'.size ≤ d ∧ T'.one ∧ T'.wf ∧ Seg l (o + 1 + P.size) T') := Lib.hid ⟨by omega, q1, q2, q3⟩
          have j1 : (j : Int) < la.length := by omega
          clear q1 q2 q3 q4 q5 q6 q7 hP hb hx
          by_cases hj0 : j = 0
          · have HXN : Hid (xs ++ (nm.data.toList ++ parT P) ++ [40] ++ T'.txt false = xs ++ (nm.data.toList ++ parT (P.app2 T'))) := Lib.hid (by
              rw [HPT.out, if_pos (by rw [HCN.out]; exact hj0)]; simp)
            have e1 : min (j : Int) 1 = 0 := by omega
            have HWB := Lib.hid (writeB_any B b (xs ++ (nm.data.toList ++ parT P)) 40 40 wr rfl HX.out (by have := HXL2.out; omega) (Nat.le_trans hBw hsz))
            have HJ0 := Lib.hid hj0
            clear hj0
            go_wp2_with fail
            (try rw [e1])
            go_wp2_with fail
            refine HWB.out.mono ?_
            rintro _ w2 ⟨rfl, hx2, hb2⟩
            have HB2 := Lib.hid (HB.out.trans hb2)
            have HCALL := Lib.hid (HREC.out T' (o + 1 + P.size) _ w2 HB2.out hx2 (by have := HXL2.out; simp at this ⊢; omega) HQ.out.1 HQ.out.2.1 HQ.out.2.2.1 HQ.out.2.2.2)
            clear hx2 hb2 a1
            go_wp2_with fail
            refine HCALL.out.mono ?_
            rintro _ w3 ⟨rfl, hx3, hb3⟩
            have HX3 := Lib.hid hx3; have HB3 := Lib.hid (HB2.out.trans hb3)
            clear hx3 hb3 HCALL
            go_wp2
            go_roundg (la.length - (j + 1))
            case measure => omega
            case rel => exact ⟨j + 1, P.app2 T', r, by go_num, rfl, by omega, HPN.out, HB3.out, by rw [← HXN.out]; exact HX3.out⟩
          · have HXN : Hid (xs ++ (nm.data.toList ++ parT P) ++ [44] ++ T'.txt false = xs ++ (nm.data.toList ++ parT (P.app2 T'))) := Lib.hid (by
              rw [HPT.out, if_neg (by rw [HCN.out]; exact hj0)]; simp)
            have e1 : min (j : Int) 1 = 1 := by omega
            have HWB := Lib.hid (writeB_any B b (xs ++ (nm.data.toList ++ parT P)) 44 44 wr rfl HX.out (by have := HXL2.out; omega) (Nat.le_trans hBw hsz))
            clear hj0
            go_wp2_with fail
            (try rw [e1])
            go_wp2_with fail
            refine HWB.out.mono ?_
            rintro _ w2 ⟨rfl, hx2, hb2⟩
            have HB2 := Lib.hid (HB.out.trans hb2)
            have HCALL := Lib.hid (HREC.out T' (o + 1 + P.size) _ w2 HB2.out hx2 (by have := HXL2.out; simp at this ⊢; omega) HQ.out.1 HQ.out.2.1 HQ.out.2.2.1 HQ.out.2.2.2)
            clear hx2 hb2 a1
            go_wp2_with fail
            refine HCALL.out.mono ?_
            rintro _ w3 ⟨rfl, hx3, hb3⟩
            have HX3 := Lib.hid hx3; have HB3 := Lib.hid (HB2.out.trans hb3)
            clear hx3 hb3 HCALL
            go_wp2
            go_roundg (la.length - (j + 1))
            case measure => omega
            case rel => exact ⟨j + 1, P.app2 T', r, by go_num, rfl, by omega, HPN.out, HB3.out, by rw [← HXN.out]; exact HX3.out⟩
        · have hBK : P = K := hP.last (by rw [← HOF.out]; exact hjl)
          have hjl' : ¬ (j : Int) < la.length := by omega
          have HBK := Lib.hid hBK
          have e2 := D.out _ hb
          clear hBK hP hb hx
          by_cases hz : la.length = 0
          · have HFIN : Hid (xs ++ (nm.data.toList ++ parT P) = xs ++ (Fo.app nm K .nil).txt false) := Lib.hid (by
              rw [← HTX.out, if_pos (by rw [← HOF.out]; exact hz), HBK.out, List.append_nil])
            have e1 : ¬ (0 : Int) < la.length := by omega
            have e1' : ¬ 0 < la.length := by omega
            have HZ := Lib.hid hz
            clear hz
            go_wp2
            go_end0
            exact ⟨rfl, by rw [← HFIN.out]; exact HX.out, HB.out⟩
          · have HFIN : Hid (xs ++ (nm.data.toList ++ parT P) ++ [41] = xs ++ (Fo.app nm K .nil).txt false) := Lib.hid (by
              rw [← HTX.out, if_neg (by rw [← HOF.out]; exact hz), HBK.out]; simp)
            have e1 : (0 : Int) < la.length := by omega
            have e1' : 0 < la.length := by omega
            have HWB := Lib.hid (writeB_any B b (xs ++ (nm.data.toList ++ parT P)) 41 41 wr rfl HX.out (by have := HXL2.out; omega) (Nat.le_trans hBw hsz))
            clear hz
            go_wp2_with fail
            refine HWB.out.mono ?_
            rintro _ w2 ⟨rfl, hx2, hb2⟩
            have HX2 := Lib.hid hx2; have HB2 := Lib.hid (HB.out.trans hb2)
            clear hx2 hb2 e2
            go_wp2
            go_end0
            exact ⟨rfl, by rw [← HFIN.out]; exact HX2.out, HB2.out⟩
end Go.Proofs.YtgcbnndbeoekgaaDoor
end
section
/- a term's text, of the program and of the document, of any nodes -/
namespace Go.Proofs.YtgcbnndbeoekgaaDoor
open Go Go.RowKit

theorem HoldsB.fresh (w : World) {B : Nat} (hB : B ≤ w.heap.size) : HoldsB (w.alloc (.cells #[.pointer none, .slice none 0 0] 64)) B w.heap.size [] :=
  .inl ⟨hB, .slice none 0 0, by show (w.heap.push _)[w.heap.size]? = _; simp, World.ownsRow_nil _ _ _ _, by simp [Value.ownBlock]⟩
theorem size_alloc (w : World) (o : Obj) : (w.alloc o).heap.size = w.heap.size + 1 := by simp

set_option maxRecDepth 100000 in
set_option maxHeartbeats 1000000 in
theorem uprint_good (S : Option Addr) (k : Nat) (T : Fo) (w : World) (F : Nat → Prop) (hF : ∀ b, F b → b < w.heap.size) (h1 : T.one) (hw : T.wf) (hl : T.size ≤ 256) (hlc : (T.flat 0).length ≤ k) (hc : k ≤ maxLen) (hr : RowOf 3 ETN w F S (T.flat 0)) (hg : rightI (T.flat 0) = 0) (hz : ∀ t ∈ T.flat 0, t.name.size ≤ 9223372036854775807)
    (ht : Lib.TabIs Tryd.prog w "internal/strconv.uint64pow10" .u64 Lib.pow10Tab) :
    Calls Tryd.prog 10 #[.agg #[.slice S (T.flat 0).length k]] w fun e w' => e = .returned (.string (byt (T.txt false))) ∧ Below w.heap.size w w' := by
  have HSZ : Hid ((T.flat 0).length ≤ 256) := Lib.hid (by rw [Fo.flat_len]; exact hl)
  have HR := Lib.hid hr; have HZ := Lib.hid hz; have HW := Lib.hid hw; have HH1 := Lib.hid h1
  have HTB := Lib.hid (Lib.tabBelow_of_tabIs ht)
  have HRI : Hid (∀ w', Below w.heap.size w w' → Calls Tryd.prog 9 #[.agg #[.slice S (T.flat 0).length k]] w' fun e w2 => e = .returned (.int .i64 0) ∧ Below w'.heap.size w' w2) := Lib.hid (fun w' hb => by
    have := uright_any S k (T.flat 0) w' F (fun b h => Nat.lt_of_lt_of_le (hF b h) hb.size) (hr.keep ETN.stays (Keep.below hb hF) (fun _ h => h)) hlc hc hz
    rw [hg] at this; exact this)
  have HTX : Hid (∀ w' b, Below w.heap.size w w' → HoldsB w' w.heap.size b [] → Calls Tryd.prog 25 #[.pointer (some ⟨b, 0, none⟩), .slice S (T.flat 0).length k, .int .i64 ((0 : Nat) : Int)] w' fun e w2 => e = .returned (.tuple #[]) ∧ HoldsB w2 w.heap.size b ([] ++ T.txt false) ∧ Below w.heap.size w' w2) := Lib.hid (fun w' b hb hx =>
    ushow_any T.size S k (T.flat 0) T 0 w' F w.heap.size b [] (Nat.le_refl _) HH1.out HW.out (Seg.whole T) HSZ.out hlc hc hF (HR.out.keep ETN.stays (Keep.below hb hF) (fun _ h => h)) hx (by simp; omega) hb.size (HTB.out.on hb))
  obtain ⟨n, hn⟩ : ∃ n, (T.flat 0).length = n := ⟨_, rfl⟩
  rw [hn] at HRI HTX ⊢
  clear hr hz hw h1 hn hg hlc hl ht
  go_enter Tryd.func10, Tryd.ntmps10
  go_wp2_with fail
  refine (HRI.out _ ((Below.refl _ _).alloc (Nat.le_refl _) _)).mono ?_
  rintro _ w2 ⟨rfl, hb2⟩
  have hx := (Blk.new w 24 #[.slice S n k]).below hb2 (by simp)
  have HB2 : Hid (Below w.heap.size w w2) := Lib.hid (((Below.refl w.heap.size w).alloc (Nat.le_refl _) _).trans (hb2.mono (by simp)))
  obtain ⟨w3, hw3⟩ : ∃ w3 : World, w2.alloc (.cells #[.pointer none, .slice none 0 0] 64) = w3 := ⟨_, rfl⟩
  have HX3 := hx.alloc (.cells #[.pointer none, .slice none 0 0] 64)
  rw [hw3] at HX3
  have c0 := hx.cell 0
  have c3 := HX3.cell 0
  have hxl := hx.lt
  simp at c0 c3
  have HB3 : Hid (Below w.heap.size w w3) := Lib.hid (by rw [← hw3]; exact HB2.out.alloc HB2.out.size _)
  obtain ⟨b, hbe⟩ : ∃ b, w2.heap.size = b := ⟨_, rfl⟩
  have HHB : Hid (HoldsB w3 w.heap.size b []) := Lib.hid (by rw [← hw3, ← hbe]; exact HoldsB.fresh w2 HB2.out.size)
  have HW3 := Lib.hid hw3; have HBE := Lib.hid hbe
  clear hx hb2 HX3 hw3 hbe
  go_wp2_with fail
  (try rw [HW3.out])
  (try rw [HBE.out])
  refine (HTX.out w3 b HB3.out HHB.out).mono ?_
  rintro _ w4 ⟨rfl, hx4, hb4⟩
  have HB4 := Lib.hid (HB3.out.trans hb4)
  have HS := Lib.hid (Tryd.Builder_String_any w.heap.size b (T.txt false) w4 hx4 HB4.out.size)
  clear hb4 hx4 c0 c3 hxl
  go_wp2_with fail
  refine HS.out.mono ?_
  rintro _ w5 ⟨rfl, hb5⟩
  have HB5 := Lib.hid (HB4.out.trans hb5)
  clear hb5
  go_wp2
  go_ret
  exact ⟨rfl, HB5.out⟩

set_option maxRecDepth 100000 in
set_option maxHeartbeats 1000000 in
theorem uprint_bad (S : Option Addr) (k : Nat) (l : List TN) (w : World) (F : Nat → Prop) (hF : ∀ b, F b → b < w.heap.size) (hlc : l.length ≤ k) (hc : k ≤ maxLen) (hr : RowOf 3 ETN w F S l) (hg : rightI l ≠ 0) (hz : ∀ t ∈ l, t.name.size ≤ 9223372036854775807) :
    Calls Tryd.prog 10 #[.agg #[.slice S l.length k]] w fun e w' => e = .returned (.string ⟨#[]⟩) ∧ Below w.heap.size w w' := by
  have HRI : Hid (∀ w', Below w.heap.size w w' → Calls Tryd.prog 9 #[.agg #[.slice S l.length k]] w' fun e w2 => e = .returned (.int .i64 (rightI l)) ∧ Below w'.heap.size w' w2) := Lib.hid (fun w' hb =>
    uright_any S k l w' F (fun b h => Nat.lt_of_lt_of_le (hF b h) hb.size) (hr.keep ETN.stays (Keep.below hb hF) (fun _ h => h)) hlc hc hz)
  obtain ⟨n, hn⟩ : ∃ n, l.length = n := ⟨_, rfl⟩
  obtain ⟨r, hrr⟩ : ∃ r, rightI l = r := ⟨_, rfl⟩
  rw [hn, hrr] at HRI
  rw [hn]
  rw [hrr] at hg
  have e0 : (r != 0) = true := by simp; exact hg
  have e1 : (r == 0) = false := beq_eq_false_iff_ne.2 hg
  clear hr hz hn hrr hlc hg
  go_enter Tryd.func10, Tryd.ntmps10
  go_wp2_with fail
  refine (HRI.out _ ((Below.refl _ _).alloc (Nat.le_refl _) _)).mono ?_
  rintro _ w2 ⟨rfl, hb2⟩
  have HB2 : Hid (Below w.heap.size w w2) := Lib.hid (((Below.refl w.heap.size w).alloc (Nat.le_refl _) _).trans (hb2.mono (by simp)))
  clear hb2
  go_wp2
  go_ret
  exact ⟨rfl, HB2.out⟩

end Go.Proofs.YtgcbnndbeoekgaaDoor
end
section
/- the law's alike: two like terms are alike -/
namespace Go.Proofs.YtgcbnndbeoekgaaDoor
open Go Go.RowKit

theorem loop_len (bs : ByteArray) : ∀ (k i : Nat) (r : List UInt8), bs.size - i ≤ k → r.length ≤ (ByteArray.toList.loop bs i r).length := by
  intro k
  induction k with
  | zero => intro i r h; rw [ByteArray.toList.loop.eq_def, if_neg (by omega), List.length_reverse]; exact Nat.le_refl _
  | succ k ih =>
    intro i r h
    rw [ByteArray.toList.loop.eq_def]
    by_cases hi : i < bs.size
    · rw [if_pos hi]
      have := ih (i + 1) (bs.get! i :: r) (by omega)
      rw [List.length_cons] at this
      omega
    · rw [if_neg hi, List.length_reverse]; exact Nat.le_refl _
theorem bytes_some {s : ByteArray} (h : s ≠ ⟨#[]⟩) : (!s.toList.isEmpty) = true := by
  have hs : 0 < s.size := by
    refine Nat.pos_of_ne_zero fun h0 => h ?_
    cases s with
    | mk d =>
      have : d.size = 0 := h0
      rw [Array.eq_empty_of_size_eq_zero this]
  have h1 : 1 ≤ s.toList.length := by
    unfold ByteArray.toList
    rw [ByteArray.toList.loop.eq_def, if_pos hs]
    exact loop_len s s.size 1 [s.get! 0] (by omega)
  cases e : s.toList with
  | nil => rw [e] at h1; cases h1
  | cons _ _ => rfl
theorem node_small {t : TN} (h : NodeR t) : t.name.size ≤ 9223372036854775807 := by
  rcases h with ⟨_, _, h3, _⟩ | ⟨_, h2⟩
  · rw [h3]; decide
  · have := name_len h2
    omega
theorem txt_ne {T : Fo} (h1 : T.one) (hw : T.wf) : byt (T.txt false) ≠ ⟨#[]⟩ := fun e => by
  have e2 : T.txt false = [] := congrArg (fun s : ByteArray => s.data.toList) e
  rcases Fo.one_cases h1 with ⟨n, rfl⟩ | ⟨nm, K, rfl⟩
  · rw [hole_txt] at e2; cases e2
  · have h3 : 0 < nm.data.toList.length := rightB_pos hw.1
    have e3 := parT_end nm K
    rw [e2] at e3
    have := congrArg List.length e3
    rw [List.length_append] at this
    simp only [List.length_nil] at this
    omega

set_option maxRecDepth 100000 in
set_option maxHeartbeats 1000000 in
theorem ualike_any (S : Option Addr) (k : Nat) (S' : Option Addr) (k' : Nat) (T : Fo) (hT : OkT T) (w : World) (F : Nat → Prop) (hF : ∀ b, F b → b < w.heap.size) (hr : RowOf 3 ETN w F S (T.flat 0)) (hlc : (T.flat 0).length ≤ k) (hc : k ≤ maxLen) (hr' : RowOf 3 ETN w F S' (T.flat 0)) (hlc' : (T.flat 0).length ≤ k') (hc' : k' ≤ maxLen)
    (ht : Lib.TabIs Tryd.prog w "internal/strconv.uint64pow10" .u64 Lib.pow10Tab) :
    Calls Tryd.prog 15 #[.agg #[.slice S (T.flat 0).length k], .agg #[.slice S' (T.flat 0).length k']] w fun e w' => e = .returned (.bool true) ∧ Below w.heap.size w w' := by
  have hz : ∀ t ∈ T.flat 0, t.name.size ≤ 9223372036854775807 := fun t ht => node_small (flat_nodeR T 0 hT.2.1 t ht)
  have hg := right_tree hT.1 hT.2.1 hT.2.2
  have HP : Hid (∀ w', Below w.heap.size w w' → Calls Tryd.prog 10 #[.agg #[.slice S (T.flat 0).length k]] w' fun e w2 => e = .returned (.string (byt (T.txt false))) ∧ Below w'.heap.size w' w2) := Lib.hid (fun w' hb => uprint_good S k T w' F (fun b h => Nat.lt_of_lt_of_le (hF b h) hb.size) hT.1 hT.2.1 hT.2.2 hlc hc (hr.keep ETN.stays (Keep.below hb hF) (fun _ h => h)) hg hz ((Lib.tabBelow_of_tabIs ht).on hb).here)
  have HP' : Hid (∀ w', Below w.heap.size w w' → Calls Tryd.prog 10 #[.agg #[.slice S' (T.flat 0).length k']] w' fun e w2 => e = .returned (.string (byt (T.txt false))) ∧ Below w'.heap.size w' w2) := Lib.hid (fun w' hb => uprint_good S' k' T w' F (fun b h => Nat.lt_of_lt_of_le (hF b h) hb.size) hT.1 hT.2.1 hT.2.2 hlc' hc' (hr'.keep ETN.stays (Keep.below hb hF) (fun _ h => h)) hg hz ((Lib.tabBelow_of_tabIs ht).on hb).here)
  have hne := txt_ne hT.1 hT.2.1
  obtain ⟨n, hn⟩ : ∃ n, (T.flat 0).length = n := ⟨_, rfl⟩
  obtain ⟨s, hs⟩ : ∃ s, byt (T.txt false) = s := ⟨_, rfl⟩
  rw [hn, hs] at HP HP'
  rw [hs] at hne
  rw [hn]
  have g0 : (!s.toList.isEmpty) = true := bytes_some hne
  clear hr hr' hz hg hn hs hlc hlc' ht
  go_enter Tryd.func15, Tryd.ntmps15
  obtain ⟨w0, hw0⟩ : ∃ x : World, (w.alloc (.cells #[.slice S n k] 24)).alloc (.cells #[.slice S' n k'] 24) = x := ⟨_, rfl⟩
  have HB0 : Hid (Below w.heap.size w w0) := Lib.hid (by rw [← hw0]; exact ((Below.refl w.heap.size w).alloc (Nat.le_refl _) _).alloc (by simp) _)
  have HX0 : Hid (Blk w0 (w.heap.size + 1) 24 #[.slice S' n k']) := Lib.hid (by rw [← hw0]; exact Blk.new' (by simp))
  have HWE := Lib.hid hw0
  clear hw0
  go_wp2_with fail
  (try rw [HWE.out])
  refine (HP.out _ HB0.out).mono ?_
  rintro _ w2 ⟨rfl, hb2⟩
  have HB2 : Hid (Below w.heap.size w w2) := Lib.hid (HB0.out.trans (hb2.mono HB0.out.size))
  have HX2 := Lib.hid (HX0.out.below hb2 HX0.out.lt)
  have c0 := HX2.out.cell 0
  have hxl := HX2.out.lt
  simp at c0
  clear hb2 HB0 HX0 HWE
  go_wp2_with fail
  refine (HP'.out _ HB2.out).mono ?_
  rintro _ w3 ⟨rfl, hb3⟩
  have HB3 : Hid (Below w.heap.size w w3) := Lib.hid (HB2.out.trans (hb3.mono HB2.out.size))
  clear hb3 c0 hxl
  go_wp2
  go_ret
  exact ⟨rfl, HB3.out⟩
end Go.Proofs.YtgcbnndbeoekgaaDoor
end
section
/- the law's equal: two like bounds are equal -/
namespace Go.Proofs.YtgcbnndbeoekgaaDoor
open Go Go.RowKit

end Go.Proofs.YtgcbnndbeoekgaaDoor
end
section
/- the law: pairs are solved as they are added, one by one; given that awake answers true -/
namespace Go.Proofs.YtgcbnndbeoekgaaDoor
open Go Go.RowKit Go.Maps

/-- the library's table is laid -/
def Tab (w : World) : Prop := Lib.TabIs Tryd.prog w "internal/strconv.uint64pow10" .u64 Lib.pow10Tab
theorem Tab.below {w w' : World} (h : Tab w) (hb : Below w.heap.size w w') : Tab w' := ((Lib.tabBelow_of_tabIs h).on hb).here
/-- awake answers true -/
def AwakeOk : Prop := ∀ w : World, Tab w → Calls Tryd.prog 13 #[] w fun e w' => e = .returned (.bool true) ∧ Below w.heap.size w w'
theorem SolvedTo.trees {ps : List (List TN × List TN)} {k : Nat} {out : List ABind} (h : SolvedTo ps k out) : ∀ x ∈ out, ∃ T, OkT T ∧ x.term = T.flat 0 := fun x hx => by
  obtain ⟨bs, h1, h2⟩ := h.out
  rw [h2] at hx
  obtain ⟨p, hp, rfl⟩ := List.mem_map.1 hx
  exact ⟨p.2, ⟨h1.1.one p hp, (ok_wf h.wf h1 p hp).2, h1.2.2 p hp⟩, rfl⟩

end Go.Proofs.YtgcbnndbeoekgaaDoor
end
