import Derived.Test.YtgcbnndbeoekgaaDoorUShow
import Derived.Test.YtgcbnndbeoekgaaDoorFindB
import Derived.Test.YtgcbnndbeoekgaaDoorAwakeP
import Derived.Lib.QuietBelow
import Derived.Test.YtgcbnndbeoekgaaDoorFewP
import Derived.Test.YtgcbnndbeoekgaaDoorData15
set_option linter.unusedSimpArgs false
set_option linter.unusedVariables false
section
/- a term's text, of the program and of the document, of any nodes -/
namespace Go.Proofs.YtgcbnndbeoekgaaDoor
open Go Go.RowKit

theorem HoldsB.fresh (w : World) {B : Nat} (hB : B ≤ w.heap.size) : HoldsB (w.alloc (.cells #[.pointer none, .slice none 0 0] 64)) B w.heap.size [] :=
  .inl ⟨hB, .slice none 0 0, by show (w.heap.push _)[w.heap.size]? = _; simp, World.ownsRow_nil _ _ _ _, by simp [Value.ownBlock]⟩
theorem size_alloc (w : World) (o : Obj) : (w.alloc o).heap.size = w.heap.size + 1 := by simp

set_option maxRecDepth 100000 in
set_option maxHeartbeats 1000000 in
theorem uprint_good (S : Option Addr) (k : Nat) (T : Fo) (w : World) (F : Nat → Prop) (hF : ∀ b, F b → b < w.heap.size) (h1 : T.one) (hw : T.wf) (hl : T.size ≤ 256) (hlc : (T.flat 0).length ≤ k) (hc : k ≤ maxLen) (hr : RowOf 3 ETN w F S (T.flat 0)) (hg : rightI (T.flat 0) = 0) (hz : ∀ t ∈ T.flat 0, t.name.size ≤ 9223372036854775807)
    (ht : Lib.TabIs Tryd.prog w "internal/strconv.uint64pow10" .u64 Lib.pow10Tab) :
    Calls Tryd.prog 10 #[.agg #[.slice S (T.flat 0).length k]] w fun e w' => e = .returned (.string (byt (T.txt false))) ∧ Below w.heap.size w w' := by
  have HSZ : Hid ((T.flat 0).length ≤ 256) := Lib.hid (by rw [Fo.flat_len]; exact hl)
  have HR := Lib.hid hr; have HZ := Lib.hid hz; have HW := Lib.hid hw; have HH1 := Lib.hid h1
  have HTB := Lib.hid (Lib.tabBelow_of_tabIs ht)
  have HRI : Hid (∀ w', Below w.heap.size w w' → Calls Tryd.prog 9 #[.agg #[.slice S (T.flat 0).length k]] w' fun e w2 => e = .returned (.int .i64 0) ∧ Below w'.heap.size w' w2) := Lib.hid (fun w' hb => by
    have := uright_any S k (T.flat 0) w' F (fun b h => Nat.lt_of_lt_of_le (hF b h) hb.size) (hr.keep ETN.stays (Keep.below hb hF) (fun _ h => h)) hlc hc hz
    rw [hg] at this; exact this)
  have HTX : Hid (∀ w' b, Below w.heap.size w w' → HoldsB w' w.heap.size b [] → Calls Tryd.prog 25 #[.pointer (some ⟨b, 0, none⟩), .slice S (T.flat 0).length k, .int .i64 ((0 : Nat) : Int)] w' fun e w2 => e = .returned (.tuple #[]) ∧ HoldsB w2 w.heap.size b ([] ++ T.txt false) ∧ Below w.heap.size w' w2) := Lib.hid (fun w' b hb hx =>
    ushow_any T.size S k (T.flat 0) T 0 w' F w.heap.size b [] (Nat.le_refl _) HH1.out HW.out (Seg.whole T) HSZ.out hlc hc hF (HR.out.keep ETN.stays (Keep.below hb hF) (fun _ h => h)) hx (by simp; omega) hb.size (HTB.out.on hb))
  obtain ⟨n, hn⟩ : ∃ n, (T.flat 0).length = n := ⟨_, rfl⟩
  rw [hn] at HRI HTX ⊢
  clear hr hz hw h1 hn hg hlc hl ht
  go_enter Tryd.func10, Tryd.ntmps10
  go_wp2_with fail
  refine (HRI.out _ ((Below.refl _ _).alloc (Nat.le_refl _) _)).mono ?_
  rintro _ w2 ⟨rfl, hb2⟩
  have hx := (Blk.new w 24 #[.slice S n k]).below hb2 (by simp)
  have HB2 : Hid (Below w.heap.size w w2) := Lib.hid (((Below.refl w.heap.size w).alloc (Nat.le_refl _) _).trans (hb2.mono (by simp)))
  obtain ⟨w3, hw3⟩ : ∃ w3 : World, w2.alloc (.cells #[.pointer none, .slice none 0 0] 64) = w3 := ⟨_, rfl⟩
  have HX3 := hx.alloc (.cells #[.pointer none, .slice none 0 0] 64)
  rw [hw3] at HX3
  have c0 := hx.cell 0
  have c3 := HX3.cell 0
  have hxl := hx.lt
  simp at c0 c3
  have HB3 : Hid (Below w.heap.size w w3) := Lib.hid (by rw [← hw3]; exact HB2.out.alloc HB2.out.size _)
  obtain ⟨b, hbe⟩ : ∃ b, w2.heap.size = b := ⟨_, rfl⟩
  have HHB : Hid (HoldsB w3 w.heap.size b []) := Lib.hid (by rw [← hw3, ← hbe]; exact HoldsB.fresh w2 HB2.out.size)
  have HW3 := Lib.hid hw3; have HBE := Lib.hid hbe
  clear hx hb2 HX3 hw3 hbe
  go_wp2_with fail
  (try rw [HW3.out])
  (try rw [HBE.out])
  refine (HTX.out w3 b HB3.out HHB.out).mono ?_
  rintro _ w4 ⟨rfl, hx4, hb4⟩
  have HB4 := Lib.hid (HB3.out.trans hb4)
  have HS := Lib.hid (Tryd.Builder_String_any w.heap.size b (T.txt false) w4 hx4 HB4.out.size)
  clear hb4 hx4 c0 c3 hxl
  go_wp2_with fail
  refine HS.out.mono ?_
  rintro _ w5 ⟨rfl, hb5⟩
  have HB5 := Lib.hid (HB4.out.trans hb5)
  clear hb5
  go_wp2
  go_ret
  exact ⟨rfl, HB5.out⟩

end Go.Proofs.YtgcbnndbeoekgaaDoor
end
section
/- the law's alike: two like terms are alike -/
namespace Go.Proofs.YtgcbnndbeoekgaaDoor
open Go Go.RowKit

theorem loop_len (bs : ByteArray) : ∀ (k i : Nat) (r : List UInt8), bs.size - i ≤ k → r.length ≤ (ByteArray.toList.loop bs i r).length := by
  intro k
  induction k with
  | zero => intro i r h; rw [ByteArray.toList.loop.eq_def, if_neg (by omega), List.length_reverse]; exact Nat.le_refl _
  | succ k ih =>
    intro i r h
    rw [ByteArray.toList.loop.eq_def]
    by_cases hi : i < bs.size
    · rw [if_pos hi]
      have := ih (i + 1) (bs.get! i :: r) (by omega)
      rw [List.length_cons] at this
      omega
    · rw [if_neg hi, List.length_reverse]; exact Nat.le_refl _
theorem bytes_some {s : ByteArray} (h : s ≠ ⟨#[]⟩) : (!s.toList.isEmpty) = true := by
  have hs : 0 < s.size := by
    refine Nat.pos_of_ne_zero fun h0 => h ?_
    cases s with
    | mk d =>
      have : d.size = 0 := h0
      rw [Array.eq_empty_of_size_eq_zero this]
  have h1 : 1 ≤ s.toList.length := by
    unfold ByteArray.toList
    rw [ByteArray.toList.loop.eq_def, if_pos hs]
    exact loop_len s s.size 1 [s.get! 0] (by omega)
  cases e : s.toList with
  | nil => rw [e] at h1; cases h1
  | cons _ _ => rfl
theorem node_small {t : TN} (h : NodeR t) : t.name.size ≤ 9223372036854775807 := by
  rcases h with ⟨_, _, h3, _⟩ | ⟨_, h2⟩
  · rw [h3]; decide
  · have := name_len h2
    omega
theorem txt_ne {T : Fo} (h1 : T.one) (hw : T.wf) : byt (T.txt false) ≠ ⟨#[]⟩ := fun e => by
  have e2 : T.txt false = [] := congrArg (fun s : ByteArray => s.data.toList) e
  rcases Fo.one_cases h1 with ⟨n, rfl⟩ | ⟨nm, K, rfl⟩
  · rw [hole_txt] at e2; cases e2
  · have h3 : 0 < nm.data.toList.length := rightB_pos hw.1
    have e3 := parT_end nm K
    rw [e2] at e3
    have := congrArg List.length e3
    rw [List.length_append] at this
    simp only [List.length_nil] at this
    omega

set_option maxRecDepth 100000 in
set_option maxHeartbeats 1000000 in
theorem ualike_any (S : Option Addr) (k : Nat) (S' : Option Addr) (k' : Nat) (T : Fo) (hT : OkT T) (w : World) (F : Nat → Prop) (hF : ∀ b, F b → b < w.heap.size) (hr : RowOf 3 ETN w F S (T.flat 0)) (hlc : (T.flat 0).length ≤ k) (hc : k ≤ maxLen) (hr' : RowOf 3 ETN w F S' (T.flat 0)) (hlc' : (T.flat 0).length ≤ k') (hc' : k' ≤ maxLen)
    (ht : Lib.TabIs Tryd.prog w "internal/strconv.uint64pow10" .u64 Lib.pow10Tab) :
    Calls Tryd.prog 15 #[.agg #[.slice S (T.flat 0).length k], .agg #[.slice S' (T.flat 0).length k']] w fun e w' => e = .returned (.bool true) ∧ Below w.heap.size w w' := by
  have hz : ∀ t ∈ T.flat 0, t.name.size ≤ 9223372036854775807 := fun t ht => node_small (flat_nodeR T 0 hT.2.1 t ht)
  have hg := right_tree hT.1 hT.2.1 hT.2.2
  have HP : Hid (∀ w', Below w.heap.size w w' → Calls Tryd.prog 10 #[.agg #[.slice S (T.flat 0).length k]] w' fun e w2 => e = .returned (.string (byt (T.txt false))) ∧ Below w'.heap.size w' w2) := Lib.hid (fun w' hb => uprint_good S k T w' F (fun b h => Nat.lt_of_lt_of_le (hF b h) hb.size) hT.1 hT.2.1 hT.2.2 hlc hc (hr.keep ETN.stays (Keep.below hb hF) (fun _ h => h)) hg hz ((Lib.tabBelow_of_tabIs ht).on hb).here)
  have HP' : Hid (∀ w', Below w.heap.size w w' → Calls Tryd.prog 10 #[.agg #[.slice S' (T.flat 0).length k']] w' fun e w2 => e = .returned (.string (byt (T.txt false))) ∧ Below w'.heap.size w' w2) := Lib.hid (fun w' hb => uprint_good S' k' T w' F (fun b h => Nat.lt_of_lt_of_le (hF b h) hb.size) hT.1 hT.2.1 hT.2.2 hlc' hc' (hr'.keep ETN.stays (Keep.below hb hF) (fun _ h => h)) hg hz ((Lib.tabBelow_of_tabIs ht).on hb).here)
  have hne := txt_ne hT.1 hT.2.1
  obtain ⟨n, hn⟩ : ∃ n, (T.flat 0).length = n := ⟨_, rfl⟩
  obtain ⟨s, hs⟩ : ∃ s, byt (T.txt false) = s := ⟨_, rfl⟩
  rw [hn, hs] at HP HP'
  rw [hs] at hne
  rw [hn]
  have g0 : (!s.toList.isEmpty) = true := bytes_some hne
  clear hr hr' hz hg hn hs hlc hlc' ht
  go_enter Tryd.func15, Tryd.ntmps15
  obtain ⟨w0, hw0⟩ : ∃ x : World, (w.alloc (.cells #[.slice S n k] 24)).alloc (.cells #[.slice S' n k'] 24) = x := ⟨_, rfl⟩
  have HB0 : Hid (Below w.heap.size w w0) := Lib.hid (by rw [← hw0]; exact ((Below.refl w.heap.size w).alloc (Nat.le_refl _) _).alloc (by simp) _)
  have HX0 : Hid (Blk w0 (w.heap.size + 1) 24 #[.slice S' n k']) := Lib.hid (by rw [← hw0]; exact Blk.new' (by simp))
  have HWE := Lib.hid hw0
  clear hw0
  go_wp2_with fail
  (try rw [HWE.out])
  refine (HP.out _ HB0.out).mono ?_
  rintro _ w2 ⟨rfl, hb2⟩
  have HB2 : Hid (Below w.heap.size w w2) := Lib.hid (HB0.out.trans (hb2.mono HB0.out.size))
  have HX2 := Lib.hid (HX0.out.below hb2 HX0.out.lt)
  have c0 := HX2.out.cell 0
  have hxl := HX2.out.lt
  simp at c0
  clear hb2 HB0 HX0 HWE
  go_wp2_with fail
  refine (HP'.out _ HB2.out).mono ?_
  rintro _ w3 ⟨rfl, hb3⟩
  have HB3 : Hid (Below w.heap.size w w3) := Lib.hid (HB2.out.trans (hb3.mono HB2.out.size))
  clear hb3 c0 hxl
  go_wp2
  go_ret
  exact ⟨rfl, HB3.out⟩
end Go.Proofs.YtgcbnndbeoekgaaDoor
end
section
/- the law's equal: two like bounds are equal -/
namespace Go.Proofs.YtgcbnndbeoekgaaDoor
open Go Go.RowKit

set_option maxRecDepth 100000 in
set_option maxHeartbeats 4000000 in
theorem equalU_any (A A' : Option Addr) (c c' : Nat) (bd : List ABind) (w : World) (hr : RowOf 2 EBind w (fun b => b < w.heap.size) A bd) (hr' : RowOf 2 EBind w (fun b => b < w.heap.size) A' bd) (hc1 : bd.length ≤ c) (hc2 : c ≤ maxLen) (hT : ∀ x ∈ bd, ∃ T, OkT T ∧ x.term = T.flat 0)
    (ht : Lib.TabIs Tryd.prog w "internal/strconv.uint64pow10" .u64 Lib.pow10Tab) :
    Calls Tryd.prog 21 #[.slice A bd.length c, .slice A' bd.length c'] w fun e w' => e = .returned (.bool true) ∧ Below w.heap.size w w' := by
  have HR := Lib.hid hr; have HR' := Lib.hid hr'; have HT := Lib.hid hT; have HTB := Lib.hid (Lib.tabBelow_of_tabIs ht)
  have hll : bd.length ≤ 9223372036854775807 := by unfold maxLen at hc2; omega
  clear hr hr' hc1 hc2 hT ht
  go_enter Tryd.func21, Tryd.ntmps21
  go_wp2
  go_loopg [5] bd.length (fun g s5 wx => ∃ i : Nat, s5 = .int .i64 i ∧ g = bd.length - i ∧ i ≤ bd.length ∧ Below w.heap.size w wx)
  case atStart => exact ⟨0, rfl, rfl, Nat.zero_le _, Below.refl _ _⟩
  case round =>
    obtain ⟨i, rfl, rfl, hi, hb⟩ := hrel
    have HB := Lib.hid hb
    have i0 : (0 : Int) ≤ i := by omega
    by_cases hlt : i < bd.length
    · have hlt' : (i : Int) < bd.length := by omega
      obtain ⟨b, off, S, k, rfl, hbF, d0, d1, hk1, hk2, hrow⟩ := bind_at HR.out hlt
      obtain ⟨b', off', S', k', rfl, hbF', d0', d1', hk1', hk2', hrow'⟩ := bind_at HR'.out hlt
      obtain ⟨T, hT, hTe⟩ := HT.out _ (List.getElem_mem hlt)
      have D := Lib.hid (fun (w' : World) (hb : Below w.heap.size w w') => And.intro ((hb.cell (p := ⟨b, off + i * 2, none⟩) hbF).trans d0) ((hb.cell (p := ⟨b', off' + i * 2, none⟩) hbF').trans d0'))
      have d1 := (hb.cell (p := ⟨b, off + i * 2 + 1, none⟩) hbF).trans d1
      have d1' := (hb.cell (p := ⟨b', off' + i * 2 + 1, none⟩) hbF').trans d1'
      rw [hTe] at d1 d1' hk1 hk1' hrow hrow'
      have HAL := Lib.hid (fun (w' : World) (hb : Below w.heap.size w w') => ualike_any S k S' k' T hT w' (fun b => b < w.heap.size) (fun b h => Nat.lt_of_lt_of_le h hb.size) (hrow.keep ETN.stays (Keep.below hb fun _ h => h) (fun _ h => h)) hk1 hk2 (hrow'.keep ETN.stays (Keep.below hb fun _ h => h) (fun _ h => h)) hk1' hk2' (HTB.out.on hb).here)
      generalize (T.flat 0).length = n at *
      generalize bd[i].hole = x at *
      have g0 : (x != x) = false := by simp
      clear hrow hrow' hk1 hk2 hk1' hk2' hb d0 d0' hTe
      go_upto_region 6 with fail
      have k0 := cell_regrown (d1)
      have k1 := cell_regrown (d1')
      have CH := Lib.hid (fun (d : Nat) (os : Array Obj) => Calls.regrown_of (w := wr) (d := d) (os := os) (HAL.out _ (HB.out.trans ((below_regrown wr d os).mono HB.out.size))))
      refine wp_region_quiet_below (by kernel_rfl) (by kernel_rfl) ?_
      repeat (first | go_big_quiet_step (exact CH.out _ _) | quiet_step (exact CH.out _ _))
      refine wpQuiet_nil ?_
      intro _ hw'
      obtain ⟨⟨dq, osq⟩, hw''⟩ := hw'
      subst hw''
      have hbq := below_regrown wr dq osq
      have HB2 := Lib.hid (HB.out.trans (hbq.mono HB.out.size))
      obtain ⟨e0, e0'⟩ := D.out _ HB2.out
      clear hbq d1 d1'
      go_upto_region 7 with fail
      go_quiet (fail)
      go_wp2
      go_roundg (bd.length - (i + 1))
      case measure => omega
      case rel => exact ⟨i + 1, by go_num, rfl, by omega, (by first | exact HB2.out | exact HB2.out.drew | (have h := HB2.out; exact ⟨h.os, h.tape, h.output, h.size, h.block⟩))⟩
    · have hlt' : ¬ (i : Int) < bd.length := by omega
      clear hb
      go_wp2
      go_ret
      exact ⟨rfl, HB.out⟩
end Go.Proofs.YtgcbnndbeoekgaaDoor
end
section
/- the law: pairs are solved as they are added, one by one; given that awake answers true -/
namespace Go.Proofs.YtgcbnndbeoekgaaDoor
open Go Go.RowKit Go.Maps

/-- the library's table is laid -/
def Tab (w : World) : Prop := Lib.TabIs Tryd.prog w "internal/strconv.uint64pow10" .u64 Lib.pow10Tab
theorem Tab.below {w w' : World} (h : Tab w) (hb : Below w.heap.size w w') : Tab w' := ((Lib.tabBelow_of_tabIs h).on hb).here
/-- awake answers true -/
def AwakeOk : Prop := ∀ w : World, Tab w → Calls Tryd.prog 13 #[] w fun e w' => e = .returned (.bool true) ∧ Below w.heap.size w w'
theorem SolvedTo.trees {ps : List (List TN × List TN)} {k : Nat} {out : List ABind} (h : SolvedTo ps k out) : ∀ x ∈ out, ∃ T, OkT T ∧ x.term = T.flat 0 := fun x hx => by
  obtain ⟨bs, h1, h2⟩ := h.out
  rw [h2] at hx
  obtain ⟨p, hp, rfl⟩ := List.mem_map.1 hx
  exact ⟨p.2, ⟨h1.1.one p hp, (ok_wf h.wf h1 p hp).2, h1.2.2 p hp⟩, rfl⟩

set_option maxRecDepth 100000 in
set_option maxHeartbeats 16000000 in
theorem folds_any (HAW : AwakeOk) (v0 : Value) (ps : List (List TN × List TN)) (w : World) (hr0 : IsRow 2 EPair w (fun b => b < w.heap.size) v0 ps) (hz : ∀ p ∈ ps, TermAll p.1 ∧ TermAll p.2) (ht : Tab w) :
    Calls Tryd.prog 8 #[v0] w fun e w' => e = .returned (.bool true) ∧ Below w.heap.size w w' := by
  obtain ⟨A, c, rfl, b1, b2, hr⟩ := hr0
  have HR := Lib.hid hr; have HZ := Lib.hid hz; have HTB := Lib.hid ht
  have HC : Hid (ps.length ≤ c ∧ c ≤ maxLen) := Lib.hid ⟨b1, b2⟩
  have HLB : Hid (∀ n ∈ pairLens ps 1000, n ≤ 140737488355328) := Lib.hid (fun n hn => by
    obtain ⟨p, hp, h⟩ := List.mem_flatMap.1 hn
    have hp := hz p (List.mem_of_mem_take hp)
    have h1 := hp.1.2; have h2 := hp.2.2
    simp only [List.mem_cons, List.not_mem_nil, or_false] at h
    rcases h with rfl | rfl <;> omega)
  have HLL : Hid ((pairLens ps 1000).length ≤ 4000) := Lib.hid (by have := pairLens_len ps 1000; omega)
  have HAWK := Lib.hid (HAW w ht)
  unfold maxLen at b2
  obtain ⟨n, hn⟩ : ∃ n, ps.length = n := ⟨_, rfl⟩
  have HN := Lib.hid hn
  rw [hn] at b1 ⊢
  clear hr hz hn ht
  go_enter Tryd.func8, Tryd.ntmps8
  go_wp2_with fail
  refine HAWK.out.mono ?_
  rintro _ w0 ⟨rfl, hb0⟩
  have HB0 := Lib.hid hb0
  have HOF := Lib.hid (of_any A c ps w0 (fun b => b < w.heap.size) (fun b h => Nat.lt_of_lt_of_le h hb0.size) (HR.out.keep EPair.stays (Keep.below hb0 (fun b h => h)) (fun _ h => h)) HC.out.1 HC.out.2)
  rw [HN.out] at HOF
  clear hb0 HAWK
  by_cases h100 : 100 < n
  · have h100' : (100 : Int) < n := by omega
    go_wp2_with fail
    go_ret
    exact ⟨rfl, HB0.out⟩
  have h100' : ¬ (100 : Int) < n := by omega
  go_wp2_with fail
  refine HOF.out.mono ?_
  rintro _ w1 ⟨v1, rfl, hv1, hb1⟩
  have HB1 := Lib.hid (HB0.out.trans (hb1.mono HB0.out.size))
  have HV1 := Lib.hid (wide_any v1 (pairLens ps 1000) w1 _ hv1 HLB.out HLL.out)
  clear hv1 hb1 HOF HLB HLL
  by_cases hw : 400 < (pairLens ps 1000).sum
  · have HD : Hid (decide (400 < (pairLens ps 1000).sum) = true) := Lib.hid (decide_eq_true hw)
    rw [HD.out] at HV1
    clear hw
    go_wp2_with (go_at_call 16; refine HV1.out.mono ?_; rintro e w' ⟨rfl, rfl⟩)
    go_ret
    exact ⟨rfl, HB1.out⟩
  have HD : Hid (decide (400 < (pairLens ps 1000).sum) = false) := Lib.hid (decide_eq_false hw)
  rw [HD.out] at HV1
  have HT : Hid (Tried ps) := Lib.hid (fun _ => ⟨by omega, .inl (by rw [HN.out]; omega)⟩)
  have HSM : Hid (∀ p ∈ ps, (∀ t ∈ p.1, t.name.size ≤ 9223372036854775807) ∧ ∀ t ∈ p.2, t.name.size ≤ 9223372036854775807) := Lib.hid (fun p hp => ⟨fun t ht => ((HZ.out p hp).1.1 t ht).1, fun t ht => ((HZ.out p hp).2.1 t ht).1⟩)
  have HS := Lib.hid (usolve_any A c ps w1 (fun b => b < w.heap.size) (fun b h => Nat.lt_of_lt_of_le h HB1.out.size) (HR.out.keep EPair.stays (Keep.below HB1.out (fun b h => h)) (fun _ h => h)) HC.out.1 HC.out.2 HSM.out HT.out.few)
  rw [HN.out] at HS
  clear hw
  go_upto_region 5 with (go_at_call 16; refine HV1.out.mono ?_; rintro e w' ⟨rfl, rfl⟩)
  clear HV1 HD
  go_wp2_with fail
  refine HS.out.mono ?_
  rintro _ w5 ⟨err, at_, out, v, hsay, rfl, hrow, hb5⟩
  have HSAY := Lib.hid hsay
  have HB5 := Lib.hid (HB1.out.trans (hb5.mono HB1.out.size))
  obtain ⟨Ad, cd, rfl, y1, y2, y3⟩ := hrow
  have HDR : Hid (RowOf 2 EBind w5 (fun b => b < w5.heap.size) Ad out) := Lib.hid (y3.keep EBind.stays (Keep.refl _ _) (fun b h => h.2)); have HDC := Lib.hid (And.intro y1 y2)
  clear HS hsay hb5 y1 y2 y3
  go_upto_region 8 with fail
  go_loopg [6, 7] n (fun g s6 s7 wx => ∃ (i : Nat) (o : List ABind), s7 = .int .i64 i ∧ g = n - i ∧ i ≤ n ∧ SolvedTo ps i o ∧ IsRow 2 EBind wx (fun b => b < wx.heap.size) s6 o ∧ Below w5.heap.size w5 wx)
  case atStart => exact ⟨0, [], rfl, rfl, Nat.zero_le _, SolvedTo.start, IsRow.nil, Below.refl _ _⟩
  case round =>
    obtain ⟨i, o, rfl, rfl, hi, hso, hro, hb⟩ := hrel
    have HSO := Lib.hid hso
    obtain ⟨Ao, co, rfl, o1, o2, o3⟩ := hro
    have HRO := Lib.hid o3; have HOC : Hid (o.length ≤ co ∧ co ≤ maxLen) := Lib.hid ⟨o1, o2⟩
    have HBX := Lib.hid hb
    have HB := Lib.hid (HB5.out.trans (hb.mono HB5.out.size))
    have i0 : (0 : Int) ≤ i := by omega
    clear hso o1 o2 o3 hb
    by_cases hin : i < n
    · have hin' : (i : Int) < n := by omega
      have HIP : Hid (i < ps.length) := Lib.hid (by rw [HN.out]; exact hin)
      obtain ⟨b, off, S1, c1, S2, c2, rfl, hbF, d0, d1, ⟨x1, x2, x3⟩, y1, y2, y3⟩ := pair_at HR.out HIP.out
      obtain ⟨l1, hl1⟩ : ∃ z, (ps[i]'HIP.out).1 = z := ⟨_, rfl⟩
      obtain ⟨l2, hl2⟩ : ∃ z, (ps[i]'HIP.out).2 = z := ⟨_, rfl⟩
      have HL : Hid ((ps[i]'HIP.out).1 = l1 ∧ (ps[i]'HIP.out).2 = l2) := Lib.hid ⟨hl1, hl2⟩
      have HZK := Lib.hid (HSM.out _ (List.getElem_mem HIP.out))
      rw [hl1] at d0 x1 x3 HZK
      rw [hl2] at d1 y1 y3 HZK
      have HADD : Hid (∀ u, Below wr.heap.size wr u → Calls Tryd.prog 22 #[.slice Ao o.length co, .agg #[.slice S1 l1.length c1], .agg #[.slice S2 l2.length c2]] u (BoundRes u (AddSays o l1 l2))) := Lib.hid (fun u hu => uadd_any Ao co o S1 c1 l1 S2 c2 l2 u (fun b => b < wr.heap.size) (fun b h => Nat.lt_of_lt_of_le h hu.size) (HRO.out.keep EBind.stays (Keep.below hu (fun b h => h)) (fun b h => h))
        (x3.keep ETN.stays (Keep.below (HB.out.trans (hu.mono HB.out.size)) (fun b h => h)) (fun b h => Nat.lt_of_lt_of_le h HB.out.size)) (y3.keep ETN.stays (Keep.below (HB.out.trans (hu.mono HB.out.size)) (fun b h => h)) (fun b h => Nat.lt_of_lt_of_le h HB.out.size)) HOC.out.1 HOC.out.2 x1 x2 y1 y2 (by have := HT.out.few (by rw [HN.out]; omega) i o HSO.out; omega) HZK.out.1 HZK.out.2 HSO.out.small)
      have HHD : Hid (∀ w', Below w.heap.size w w' → w'.cell? ⟨b, off + i * 2, none⟩ = some (.slice S1 l1.length c1) ∧ w'.cell? ⟨b, off + i * 2 + 1, none⟩ = some (.slice S2 l2.length c2) ∧ True) := Lib.hid (fun w' hb' => ⟨(hb'.cell (p := ⟨b, off + i * 2, none⟩) hbF).trans d0, (hb'.cell (p := ⟨b, off + i * 2 + 1, none⟩) hbF).trans d1, trivial⟩)
      clear hl1 hl2 x1 x2 x3 y1 y2 y3 d0 d1
      obtain ⟨m1, hm1⟩ : ∃ z, l1.length = z := ⟨_, rfl⟩
      obtain ⟨m2, hm2⟩ : ∃ z, l2.length = z := ⟨_, rfl⟩
      obtain ⟨mo, hmo⟩ : ∃ z, o.length = z := ⟨_, rfl⟩
      rw [hm1, hm2] at HHD
      rw [hm1, hm2, hmo] at HADD
      (try rw [hmo])
      clear hm1 hm2
      go_upto_region 10 with fail
      obtain ⟨u, hu⟩ : ∃ u : World, wr.drew = u := ⟨_, rfl⟩
      have HU : Hid (Below wr.heap.size wr u) := Lib.hid (by rw [← hu]; exact (Below.refl _ _).drew)
      have HBU := Lib.hid (HB.out.trans (HU.out.mono HB.out.size))
      have HBXU := Lib.hid (HBX.out.trans (HU.out.mono HBX.out.size))
      refine wp_region_Y (S := (fun w' : World => w'.cell? ⟨b, off + i * 2, none⟩ = some (.slice S1 m1 c1) ∧ w'.cell? ⟨b, off + i * 2 + 1, none⟩ = some (.slice S2 m2 c2) ∧ True)) 16 (by kernel_rfl) (by rw [hu]; exact HHD.out _ HBU.out) (fun hHeld => ?_)
      rw [hu] at hHeld ⊢
      clear hu
      refine wpAnyY_take (i := 0) (v := ?_) rfl (by kernel_rfl) (by kernel_rfl) (by kernel_rfl) (by kernel_rfl) (fun _ _ _ h => h) (Or.inl ⟨by rfl, ?_⟩) (by assumption) ?_
      rotate_left 1
      · (intro w' hSw; obtain ⟨s0, s1, s2⟩ := hSw; go_simp); try with_reducible rfl
      try simp only [Act.put, List.setIfInBounds_toArray, List.set_cons_zero, List.set_cons_succ, Nat.zero_add]
      refine wpAnyY_take (i := 1) (v := ?_) rfl (by kernel_rfl) (by kernel_rfl) (by kernel_rfl) (by kernel_rfl) (fun _ _ _ h => h) (Or.inl ⟨by rfl, ?_⟩) (by assumption) ?_
      rotate_left 1
      · (intro w' hSw; obtain ⟨s0, s1, s2⟩ := hSw; go_simp); try with_reducible rfl
      try simp only [Act.put, List.setIfInBounds_toArray, List.set_cons_zero, List.set_cons_succ, Nat.zero_add]
      refine wpAnyY_take (i := 2) (v := ?_) rfl (by kernel_rfl) (by kernel_rfl) (by kernel_rfl) (by kernel_rfl) (fun _ _ _ h => h) (Or.inl ⟨by rfl, ?_⟩) (by assumption) ?_
      rotate_left 1
      · (intro w' hSw; obtain ⟨s0, s1, s2⟩ := hSw; go_simp); try with_reducible rfl
      try simp only [Act.put, List.setIfInBounds_toArray, List.set_cons_zero, List.set_cons_succ, Nat.zero_add]
      refine wpAnyY_take (i := 3) (v := ?_) rfl (by kernel_rfl) (by kernel_rfl) (by kernel_rfl) (by kernel_rfl) (fun _ _ _ h => h) (Or.inl ⟨by rfl, ?_⟩) (by assumption) ?_
      rotate_left 1
      · (intro w' hSw; obtain ⟨s0, s1, s2⟩ := hSw; go_simp); try with_reducible rfl
      try simp only [Act.put, List.setIfInBounds_toArray, List.set_cons_zero, List.set_cons_succ, Nat.zero_add]
      refine wpAnyY_take (i := 4) (v := ?_) rfl (by kernel_rfl) (by kernel_rfl) (by kernel_rfl) (by kernel_rfl) (fun _ _ _ h => h) (Or.inl ⟨by rfl, ?_⟩) (by assumption) ?_
      rotate_left 1
      · (intro w' hSw; obtain ⟨s0, s1, s2⟩ := hSw; go_simp); try with_reducible rfl
      try simp only [Act.put, List.setIfInBounds_toArray, List.set_cons_zero, List.set_cons_succ, Nat.zero_add]
      refine wpAnyY_take (i := 5) (v := ?_) rfl (by kernel_rfl) (by kernel_rfl) (by kernel_rfl) (by kernel_rfl) (fun _ _ _ h => h) (Or.inl ⟨by rfl, ?_⟩) (by assumption) ?_
      rotate_left 1
      · (intro w' hSw; obtain ⟨s0, s1, s2⟩ := hSw; go_simp); try with_reducible rfl
      try simp only [Act.put, List.setIfInBounds_toArray, List.set_cons_zero, List.set_cons_succ, Nat.zero_add]
      refine wpAnyY_take (i := 6) (v := ?_) rfl (by kernel_rfl) (by kernel_rfl) (by kernel_rfl) (by kernel_rfl) (fun _ _ _ h => h) (Or.inl ⟨by rfl, ?_⟩) (by assumption) ?_
      rotate_left 1
      · (intro w' hSw; obtain ⟨s0, s1, s2⟩ := hSw; go_simp); try with_reducible rfl
      try simp only [Act.put, List.setIfInBounds_toArray, List.set_cons_zero, List.set_cons_succ, Nat.zero_add]
      refine wpAnyY_take (i := 7) (v := ?_) rfl (by kernel_rfl) (by kernel_rfl) (by kernel_rfl) (by kernel_rfl) (fun _ _ _ h => h) (Or.inl ⟨by rfl, ?_⟩) (by assumption) ?_
      rotate_left 1
      · (intro w' hSw; obtain ⟨s0, s1, s2⟩ := hSw; go_simp); try with_reducible rfl
      try simp only [Act.put, List.setIfInBounds_toArray, List.set_cons_zero, List.set_cons_succ, Nat.zero_add]
      refine wpAnyY_take (i := 8) (v := ?_) rfl (by kernel_rfl) (by kernel_rfl) (by kernel_rfl) (by kernel_rfl) (fun _ _ _ h => h) (Or.inl ⟨by rfl, ?_⟩) (by assumption) ?_
      rotate_left 1
      · (intro w' hSw; obtain ⟨s0, s1, s2⟩ := hSw; go_simp); try with_reducible rfl
      try simp only [Act.put, List.setIfInBounds_toArray, List.set_cons_zero, List.set_cons_succ, Nat.zero_add]
      refine wpAnyY_take (i := 9) (v := ?_) rfl (by kernel_rfl) (by kernel_rfl) (by kernel_rfl) (by kernel_rfl) (fun _ _ _ h => h) (Or.inl ⟨by rfl, ?_⟩) (by assumption) ?_
      rotate_left 1
      · (intro w' hSw; obtain ⟨s0, s1, s2⟩ := hSw; go_simp); try with_reducible rfl
      try simp only [Act.put, List.setIfInBounds_toArray, List.set_cons_zero, List.set_cons_succ, Nat.zero_add]
      refine wpAnyY_take (i := 10) (v := ?_) rfl (by kernel_rfl) (by kernel_rfl) (by kernel_rfl) (by kernel_rfl) (fun _ _ _ h => h) (Or.inl ⟨by rfl, ?_⟩) (by assumption) ?_
      rotate_left 1
      · (intro w' hSw; obtain ⟨s0, s1, s2⟩ := hSw; go_simp); try with_reducible rfl
      try simp only [Act.put, List.setIfInBounds_toArray, List.set_cons_zero, List.set_cons_succ, Nat.zero_add]
      refine wpAnyY_one (i := 11) rfl (by kernel_rfl) (fun K hK => ?_)
      go_simp
      refine (HADD.out _ HU.out).mono ?_
      rintro _ w9 ⟨err2, out2, v2, hsay2, rfl, hrow2, hb9⟩
      have HST := Lib.hid (HSO.out.added HIP.out (err := err2) (out' := out2) (by rw [HL.out.1, HL.out.2]; exact hsay2))
      have HB9 : Hid (Below w.heap.size w w9) := Lib.hid (HBU.out.trans (hb9.mono HBU.out.size))
      have HBX9 : Hid (Below w5.heap.size w5 w9) := Lib.hid (HBXU.out.trans (hb9.mono HBXU.out.size))
      obtain ⟨A2, k2, rfl, t1, t2, t3⟩ := hrow2
      have HR9 : Hid (RowOf 2 EBind w9 (fun b => b < w9.heap.size) A2 out2) := Lib.hid (t3.keep EBind.stays (Keep.refl _ _) (fun b h => h.2)); have HC9 := Lib.hid (And.intro t1 t2)
      clear hsay2 hb9 t1 t2 t3
      refine hK.out _ _ (fun _ => HHD.out _ HB9.out) ?_
      have hHeld9 := HHD.out _ HB9.out
      clear hK K
      try simp only [Act.put, List.setIfInBounds_toArray, List.set_cons_zero, List.set_cons_succ, Nat.zero_add]
      refine wpAnyY_take (i := 12) (v := ?_) rfl (by kernel_rfl) (by kernel_rfl) (by kernel_rfl) (by kernel_rfl) (fun _ _ _ h => h) (Or.inl ⟨by rfl, ?_⟩) (by assumption) ?_
      rotate_left 1
      · (intro w' hSw; obtain ⟨s0, s1, s2⟩ := hSw; go_simp); try with_reducible rfl
      try simp only [Act.put, List.setIfInBounds_toArray, List.set_cons_zero, List.set_cons_succ, Nat.zero_add]
      refine wpAnyY_take (i := 13) (v := ?_) rfl (by kernel_rfl) (by kernel_rfl) (by kernel_rfl) (by kernel_rfl) (fun _ _ _ h => h) (Or.inl ⟨by rfl, ?_⟩) (by assumption) ?_
      rotate_left 1
      · (intro w' hSw; obtain ⟨s0, s1, s2⟩ := hSw; go_simp); try with_reducible rfl
      try simp only [Act.put, List.setIfInBounds_toArray, List.set_cons_zero, List.set_cons_succ, Nat.zero_add]
      refine wpAnyY_take (i := 14) (v := ?_) rfl (by kernel_rfl) (by kernel_rfl) (by kernel_rfl) (by kernel_rfl) (fun _ _ _ h => h) (Or.inl ⟨by rfl, ?_⟩) (by assumption) ?_
      rotate_left 1
      · (intro w' hSw; obtain ⟨s0, s1, s2⟩ := hSw; go_simp); try with_reducible rfl
      try simp only [Act.put, List.setIfInBounds_toArray, List.set_cons_zero, List.set_cons_succ, Nat.zero_add]
      refine wpAnyY_one (i := 15) rfl (by kernel_rfl) (fun K hK => ?_)
      go_simp
      refine hK.out _ _ (fun _ => hHeld9) ?_
      clear hK K
      try simp only [Act.put, List.setIfInBounds_toArray, List.set_cons_zero, List.set_cons_succ, Nat.zero_add]
      refine wpAnyY_one0 (i := 16) rfl (by kernel_rfl) (by kernel_rfl) (fun K hK => ?_)
      go_simp
      refine hK.out _ _ ?_
      clear hK K
      try simp only [Act.put, List.setIfInBounds_toArray, List.set_cons_zero, List.set_cons_succ, Nat.zero_add]
      refine wpAnyY_done (by kernel_rfl) ?_ _
      clear hHeld hHeld9
      by_cases he : err2 = 0
      · subst he
        have HNX : Hid (SolvedTo ps (i + 1) out2) := Lib.hid (by
          rcases HST.out with ⟨_, h⟩ | ⟨h, _⟩
          · exact h
          · exact absurd rfl h)
        go_wp2_with fail
        go_roundg (n - (i + 1))
        case measure => omega
        case rel => exact ⟨i + 1, out2, by go_num, rfl, by omega, HNX.out, ⟨A2, k2, rfl, HC9.out.1, HC9.out.2, HR9.out⟩, HBX9.out⟩
      · have he' : (err2 != 0) = true := by simp; exact he
        have HNX : Hid (SolveSays ps err2 (i : Nat) [] ∧ out2 = []) := Lib.hid (by
          rcases HST.out with ⟨h, _⟩ | ⟨_, h, h2⟩
          · exact absurd h he
          · exact ⟨.inr (.inr ⟨by rw [HN.out]; omega, i, o, HSO.out, h, rfl, rfl⟩), h2⟩)
        obtain ⟨q1, q2, q3⟩ := HSAY.out.same HNX.out.1
        have q4 := HNX.out.2
        subst q1; subst q2; subst q3; subst q4
        have g1 : (err == err) = true := by simp
        clear he
        go_wp2
        go_ret
        exact ⟨rfl, HB9.out⟩
    · have hin' : ¬ (i : Int) < n := by omega
      have hie : i = ps.length := by rw [HN.out]; omega
      have HSS : Hid (SolveSays ps 0 0 o) := Lib.hid (.inr (.inl ⟨by rw [HN.out]; omega, by rw [← hie]; exact HSO.out, rfl, rfl⟩))
      obtain ⟨he, ha, ho⟩ := HSAY.out.same HSS.out
      subst he; subst ha; subst ho
      have HEQ := Lib.hid (equalU_any Ad Ao cd co out wr (HDR.out.keep EBind.stays (Keep.below HBX.out (fun b h => h)) (fun b h => Nat.lt_of_lt_of_le h HBX.out.size)) HRO.out HDC.out.1 HDC.out.2 HSO.out.trees (Tab.below HTB.out HB.out))
      clear hie
      go_wp2_with fail
      refine HEQ.out.mono ?_
      rintro _ w8 ⟨rfl, hb8⟩
      have HB8 := Lib.hid (HB.out.trans (hb8.mono HB.out.size))
      clear hb8 HEQ
      go_wp2
      go_ret
      exact ⟨rfl, HB8.out⟩
end Go.Proofs.YtgcbnndbeoekgaaDoor
end
