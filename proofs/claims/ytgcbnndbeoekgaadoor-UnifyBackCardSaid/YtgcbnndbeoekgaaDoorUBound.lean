import Derived.Test.YtgcbnndbeoekgaaDoorWriteM
import Derived.Test.YtgcbnndbeoekgaaDoorShelf
import Derived.Sort.OwnSortedInts
import Derived.Test.YtgcbnndbeoekgaaDoorUMeas
import Derived.Test.YtgcbnndbeoekgaaDoorUWrite
import Derived.Test.YtgcbnndbeoekgaaDoorBoundP
import Derived.Test.YtgcbnndbeoekgaaDoorULay
import Derived.Maps.RangeWalk
set_option linter.unusedSimpArgs false
set_option linter.unusedVariables false
section
/- a map's keys are collected and sorted -/
namespace Go.Proofs.YtgcbnndbeoekgaaDoor
open Go Go.RowKit Go.Maps Go.Sort

theorem sortU_any (v : Value) (l : List Int) (w : World) (base : Nat) (h : w.ownsRow base 3 1 v l.length (l.map (.int .i64))) (hl : l.length < 4611686018427387904) :
    Calls Tryd.prog 47 #[v] w fun e w' => e = .returned (.tuple #[]) ∧ w'.ownsRow base 3 1 v l.length ((l.mergeSort fun x y => decide (x ≤ y)).map (.int .i64)) ∧ w.grownBy w' v.ownBlock := by
  rcases h.2 with ⟨rfl, h0⟩ | ⟨g, cap, cur, rfl, hbase, hb, h1, h2, h3, h4⟩
  · obtain rfl := List.eq_nil_of_length_eq_zero h0
    refine (Tryd.slices_Sort_int_none none 0 w).mono ?_
    rintro e w' ⟨rfl, rfl⟩
    exact ⟨rfl, by simpa using World.ownsRow_nil _ _ _ _, World.grownBy.refl _ _⟩
  · have hH := holds_of_blockI (e := 3) (ss := l) hb (by simpa using h4)
    refine (Tryd.slices_Sort_int g 0 cap l w hH (Array.getElem?_eq_some_iff.1 hb).1 hl).mono ?_
    rintro e w' ⟨rfl, n, os, rfl⟩
    have hlen : (l.mergeSort fun x y => decide (x ≤ y)).length = l.length := by simp
    refine ⟨rfl, ?_, grownBy_sortedI _⟩
    have := ownsRow_sortedI (n := n) (os := os) (ss := l) (ts := l.mergeSort fun x y => decide (x ≤ y)) hlen hbase hb h1 h2 h3
    simpa using this
theorem kM_same (a b : Int) : (kM a).sameKey (kM b) = decide (a = b) := by
  by_cases h : a = b
  · subst h; simp [kM, Lit.sameKey]
  · rw [sameKey_ne (kM_ne h)]; simp [h]
/-- the keys that have come -/
def Coll (D : DataW Value) (left : Lit → Bool) (cs : List Int) : Prop := cs.Nodup ∧ ∀ id : Int, id ∈ cs ↔ Maps.has D (kM id) = true ∧ left (kM id) = false
theorem Coll.start (D : DataW Value) : Coll D (Maps.has D) [] := ⟨List.nodup_nil, fun id => by simp⟩
theorem Coll.step {D : DataW Value} {left : Lit → Bool} {cs : List Int} (h : Coll D left cs) {x : Int} (hl : left (kM x) = true) (hd : Maps.has D (kM x) = true) : Coll D (fun z => left z && !z.sameKey (kM x)) (cs ++ [x]) := by
  refine ⟨List.nodup_append.2 ⟨h.1, by simp, fun a ha b hb e => ?_⟩, fun id => ?_⟩
  · simp at hb; subst hb; subst e
    have := ((h.2 a).1 ha).2
    rw [hl] at this; cases this
  · show id ∈ cs ++ [x] ↔ Maps.has D (kM id) = true ∧ (left (kM id) && !(kM id).sameKey (kM x)) = false
    rw [List.mem_append, h.2, kM_same]
    by_cases e : id = x
    · subst e; simp [hd]
    · simp [e]
theorem invKM : ∀ key kl, keyOf Tryd.prog 3 key = some kl → ∃ x : Int, key = .int .i64 x := fun key kl h => by
  obtain ⟨x, rfl, _⟩ := Maps.keyOf_int_inv Tryd.underlying3 h
  exact ⟨x, rfl⟩
theorem invVM : ∀ (v : Value) (y : DataW Value × List MemPlace), heldM v = some y → ∃ c : Value, v = c := fun v _ _ => ⟨v, rfl⟩
theorem rcntM_le {w : World} {b r n cnt : Nat} {D : DataW Value} {left : Lit → Bool} (h : w.ranges Tryd.prog 3 heldM b r n D left cnt) : cnt ≤ n := by
  obtain ⟨es, clock, since, seen, c0, hb, F, hs, hD, hr, _, hc, _⟩ := h
  have : (leftOf es seen).size ≤ es.size := by unfold leftOf; exact Array.size_filter_le
  omega
theorem own_ne_iterM {w : World} {base : Nat} {e : TypeId} {size : Nat} {v : Value} {n : Nat} {xs : List Value} (h : w.ownsRow base e size v n xs) {b r k cnt : Nat} {D : DataW Value} {left : Lit → Bool} (hm : w.ranges Tryd.prog 3 heldM b r k D left cnt) : v.ownBlock ≠ some r :=
  fun eb => row_ne_iter h hm eb.symm
/-- the keys, all of them, sorted -/
theorem keys_sorted {D : DataW Value} {hm : List (Nat × Nat)} (hV : MapV D (holeVals hm)) {left : Lit → Bool} {cs : List Int} (h : Coll D left cs) (hl : ∀ kl, left kl = false) : ∃ hs : List Nat, (cs.mergeSort fun x y => decide (x ≤ y)) = hs.map (fun x : Nat => (x : Int)) ∧ hs.Pairwise (· < ·) ∧ ∀ x, x ∈ hs ↔ ∃ k, (x, k) ∈ hm := by
  have hp := List.mergeSort_perm cs (fun x y => decide (x ≤ y))
  have hmem : ∀ id : Int, id ∈ (cs.mergeSort fun x y => decide (x ≤ y)) ↔ ∃ q ∈ hm, (q.1 : Int) = id := fun id => by
    rw [hp.mem_iff, h.2, hV.has_]
    simp only [hl, and_true]
    unfold holeVals
    constructor
    · rintro ⟨q, hq, e⟩
      obtain ⟨z, hz, rfl⟩ := List.mem_map.1 hq
      exact ⟨z, hz, e⟩
    · rintro ⟨q, hq, e⟩
      exact ⟨_, List.mem_map_of_mem hq, e⟩
  have hnat : ∀ x ∈ (cs.mergeSort fun x y => decide (x ≤ y)), ∃ k : Nat, x = (k : Int) := fun x hx => by
    obtain ⟨q, _, e⟩ := (hmem x).1 hx
    exact ⟨q.1, e.symm⟩
  have hsort : (cs.mergeSort fun x y => decide (x ≤ y)).Pairwise (fun x y => x ≤ y) := by
    have := List.pairwise_mergeSort (le := fun x y : Int => decide (x ≤ y)) (fun a b c h1 h2 => by simp at h1 h2 ⊢; omega) (fun a b => by simp; omega) cs
    exact this.imp (fun h => by simpa using h)
  have hnd : (cs.mergeSort fun x y => decide (x ≤ y)).Nodup := hp.nodup_iff.2 h.1
  refine ⟨(cs.mergeSort fun x y => decide (x ≤ y)).map Int.toNat, ?_, ?_, fun x => ?_⟩
  · rw [List.map_map]
    refine (List.map_id _).symm.trans (List.map_congr_left fun x hx => ?_)
    obtain ⟨k, rfl⟩ := hnat x hx
    show (k : Int) = ((k : Int).toNat : Int)
    simp
  · rw [List.pairwise_map]
    refine List.Pairwise.imp_of_mem (fun {a b} ha hb h2 => ?_) (hsort.and hnd)
    obtain ⟨i, rfl⟩ := hnat a ha
    obtain ⟨j, rfl⟩ := hnat b hb
    have h3 := h2.1; have h4 := h2.2
    simp only [Int.toNat_natCast]
    omega
  · rw [List.mem_map]
    constructor
    · rintro ⟨y, hy, rfl⟩
      obtain ⟨q, hq, e⟩ := (hmem y).1 hy
      exact ⟨q.2, by rw [← e, Int.toNat_natCast]; exact hq⟩
    · rintro ⟨k, hk⟩
      exact ⟨(x : Int), (hmem _).2 ⟨(x, k), hk, rfl⟩, by simp⟩
end Go.Proofs.YtgcbnndbeoekgaaDoor
end
section
/- unify's web.bound: the bound of all that met -/
namespace Go.Proofs.YtgcbnndbeoekgaaDoor
open Go Go.RowKit Go.Maps

/-- a bound is answered -/
def BoundIs (w : World) (e : Ending) (w' : World) : Outc → Prop
  | .ok bs => ∃ v, e = .returned (.tuple #[v, .int .i64 0]) ∧ IsRow 2 EBind w' (fun b => w.heap.size ≤ b ∧ b < w'.heap.size) v (bs.map bindOf)
  | .occurs => e = .returned (.tuple #[.slice none 0 0, .int .i64 151])
  | .long => e = .returned (.tuple #[.slice none 0 0, .int .i64 3])
  | .clash => False
def SomeBound (w : World) (B p mb : Nat) (lv tv : Value) (E : List (Fo × Fo)) (e : Ending) (w' : World) : Prop := ∃ o, Comes E o ∧ BoundIs w e w' o ∧ Kb (Wb p mb lv tv) w w'
theorem ubind_infoB : (Tryd.prog.info? 71).map (fun i => (i.zero, i.size, i.bytes)) = some (some (.agg #[.int .i64 0, .slice none 0 0]), 2, 32) := by kernel_rfl
theorem own_nat {w : World} {base m c : Nat} {A : Option Addr} {l : List Nat} (h : w.ownsRow base 3 1 (.slice A m c) m (natCells l)) {i : Nat} (hi : i < m) (hl : l.length = m) : ∃ g, A = some ⟨g, 0, none⟩ ∧ w.cell? ⟨g, i, none⟩ = some (.int .i64 (l[i]'(by omega))) := by
  rcases h.2 with ⟨_, h0⟩ | ⟨g, cap, cur, e, _⟩
  · omega
  · injection e with e _ _
    subst e
    refine ⟨g, rfl, ?_⟩
    rw [World.ownsRow.cellAt h i (by omega)]
    unfold natCells
    simp [show i < l.length by omega]
theorem grown_of_wrB {lv : Value} {w w' : World} (h : Kb (WrB lv (.slice none 0 0)) w w') : w.grownBy w' lv.ownBlock := ⟨h.os, h.tape, h.output, h.size, fun k hk hne => h.block k hk (fun e => e.elim (fun e => hne e.symm) (fun e => by cases e))⟩
theorem OwnRow.lowB {w w' : World} {C : Nat} {v : Value} {l : List ABind} (h : OwnRow 2 71 EBind (fun b => C ≤ b) w C v l) {row : Option Nat} (hg : w.grownBy w' row) (hr : ∀ b, row = some b → b < C) : OwnRow 2 71 EBind (fun b => C ≤ b) w' C v l := by
  obtain ⟨xs, hx⟩ := h.owns
  refine h.kept EBind.stays hg ?_ (fun b hb _ e => by have := hr b e; omega)
  cases hb : v.ownBlock with
  | none => exact .inl rfl
  | some b => exact .inr fun e => by have := (hx.lt b hb).1; have := hr b e.symm; omega
theorem marks_start {W : WebT} {r : Nat → Nat} {tm : Nat → Option Nat} {lo : Nat → Nat} {l : List PN} (h : ∀ x ∈ l, x.seen = 0) : Marks W r tm lo l (fun _ => False) := ⟨fun c hc _ => .inl ⟨h _ (List.getElem_mem hc), fun h => h⟩⟩

set_option maxRecDepth 100000 in
set_option maxHeartbeats 16000000 in
theorem ubound_any (B p mb : Nat) (tv : Value) (hm td : List (Nat × Nat)) (W : WebT) (r : Nat → Nat) (tm : Nat → Option Nat) (lo : Nat → Nat) (E : List (Fo × Fo)) (hU : USt W r tm lo [] E) (hM : Meets W r E) (g n c : Nat) (hn : n ≤ 17179869184) (hc : n ≤ c) (hc2 : c ≤ maxLen) (w : World) (l0 : List PN) (hl : l0.length = n) (hweb : WebAt w B p (.slice (some ⟨g, 0, none⟩) n c) mb tv l0 hm td) (hpw : PW W r tm lo l0 hm) (hz : ∀ x ∈ l0, x.seen = 0) (hml : hm.length ≤ 17179869184) (hmr : ∀ q ∈ hm, q.1 ≤ 2147483647) :
    Calls Tryd.prog 37 #[.pointer (some ⟨p, 0, none⟩)] w (SomeBound w B p mb (.slice (some ⟨g, 0, none⟩) n c) tv E) := by
  have HU := Lib.hid hU; have HMT := Lib.hid hM; have HL := Lib.hid hl; have HW := Lib.hid hweb; have HP := Lib.hid hpw; have HMR := Lib.hid hmr
  have hcm := hc2
  have HCM := Lib.hid hcm
  have HWN : Hid (W.n = n) := Lib.hid (by rw [hpw.len, hl])
  have HS0 : Hid (Measured w B p mb (.slice (some ⟨g, 0, none⟩) n c) tv hm td W r tm lo l0 (fun _ => False) w l0) := Lib.hid ⟨MeetM.start hweb, hpw, marks_start hz, Same0.refl _, fun _ _ h => h, Nat.le_refl _⟩
  unfold maxLen at hc2
  clear hU hM hl hweb hpw hz hmr hcm
  have p0 := HW.out.blk.cell 0
  simp at p0
  go_enter Tryd.func37, Tryd.ntmps37
  go_upto_region 2 with fail
  clear p0
  go_loopg [16] n (fun gh s16 wx => ∃ (k : Nat) (l : List PN), s16 = .int .i64 k ∧ gh = n - k ∧ k ≤ n ∧ Measured w B p mb (.slice (some ⟨g, 0, none⟩) n c) tv hm td W r tm lo l0 (fun _ => False) wx l ∧ ∀ j, j < k → seenOf l (r j) = 2)
  case atStart => exact ⟨0, l0, rfl, rfl, Nat.zero_le _, HS0.out, fun j hj => by omega⟩
  case round =>
    clear HS0
    obtain ⟨k, l, rfl, rfl, hk, hME, hsn⟩ := hrel
    have HME := Lib.hid hME; have HSN := Lib.hid hsn
    have HLX : Hid (l.length = n) := Lib.hid (hME.same.1.trans HL.out)
    have k0 : (0 : Int) ≤ k := by omega
    clear hME hsn
    by_cases hkn : k < n
    · have hkn' : (k : Int) < n := by omega
      have HCALL : Hid (Calls Tryd.prog 46 #[.pointer (some ⟨p, 0, none⟩), .int .i64 k] wr (SomeMeas wr B p mb (.slice (some ⟨g, 0, none⟩) n c) tv hm td W r tm lo l (fun _ => False) k)) := Lib.hid (umeas_any B p mb tv hm td W r tm lo E HU.out g n c hn hc HCM.out _ wr l (fun _ => False) k (Nat.le_refl _) HLX.out HME.out.mem.web HME.out.pw HME.out.marks (fun _ h => h.elim) hkn)
      go_wp2_with fail
      refine HCALL.out.mono ?_
      clear HCALL
      rintro _ w5 (⟨rfl, l5, hM5, hs5⟩ | ⟨rfl, hcy, hkb⟩)
      case inr =>
        have HCY := Lib.hid hcy; have HKB := Lib.hid hkb
        clear hcy hkb
        go_wp2_with fail
        refine bodyPost_ret (v := .tuple #[.slice none 0 0, .int .i64 151]) (by simp [results, Tryd.results37, go_sem]) rfl ?_
        exact ⟨.occurs, cyc_occurs HU.out HMT.out HCY.out, rfl, HME.out.mem.kb.trans HKB.out (fun _ e => .inl e)⟩
      case inl =>
        have HM5 : Hid (Measured w B p mb (.slice (some ⟨g, 0, none⟩) n c) tv hm td W r tm lo l0 (fun _ => False) w5 l5) := Lib.hid ⟨HME.out.mem.then hM5.mem, hM5.pw, hM5.marks, HME.out.same.trans hM5.same, fun c hc h => hM5.seen c hc (HME.out.seen c hc h), Nat.le_trans hM5.less HME.out.less⟩
        have HSN5 : Hid (∀ j, j < k + 1 → seenOf l5 (r j) = 2) := Lib.hid (fun j hj => by
          by_cases e : j = k
          · subst e; exact hs5
          · refine hM5.seen _ ?_ (HSN.out j (by omega))
            obtain ⟨dd, hdd⟩ := HME.out.pw.uf
            rw [HLX.out] at hdd
            exact hdd.idem (by omega))
        clear hM5 hs5
        go_wp2_with fail
        go_roundg (n - (k + 1))
        case measure => omega
        case rel => exact ⟨k + 1, l5, by go_num, rfl, by omega, HM5.out, HSN5.out⟩
    · have hkn' : ¬ (k : Int) < n := by omega
      have HLAY : Hid (∀ j, j < W.n → ∃ T, Lay W r tm lo (r j) T ∧ ∃ h : r j < l.length, l[r j].size = min T.size 257) := Lib.hid (fun j hj => by
        rw [HWN.out] at hj
        have h2 := HSN.out j (by omega)
        obtain ⟨dd, hdd⟩ := HME.out.pw.uf
        rw [HLX.out] at hdd
        have hrl : r j < l.length := by rw [HLX.out]; exact hdd.rlt j hj
        rw [seenOf_at hrl] at h2
        rcases HME.out.marks.at_ _ hrl (hdd.idem hj) with ⟨h1, _⟩ | ⟨h1, _⟩ | ⟨_, _, T, h3, h4⟩
        · rw [h1] at h2; cases h2
        · rw [h1] at h2; cases h2
        · exact ⟨T, h3, hrl, h4⟩)
      obtain ⟨C, hC⟩ : ∃ C, wr.heap.size = C := ⟨_, rfl⟩
      have HWS : Hid (WrS B p mb (.slice (some ⟨g, 0, none⟩) n c) tv hm td W r tm lo C l wr l) := Lib.hid ⟨HME.out.mem.web, HME.out.pw, Ups.refl _, HME.out.mem.web.lows (by omega)⟩
      have HKB : Hid (Kb (Wb p mb (.slice (some ⟨g, 0, none⟩) n c) tv) w wr) := Lib.hid HME.out.mem.kb
      have HSM := Lib.hid HME.out.same
      have HCW : Hid (w.heap.size ≤ C) := Lib.hid (by rw [← hC]; exact HKB.out.size)
      have HCE := Lib.hid hC
      obtain ⟨D, hD, hV⟩ := HME.out.mem.web.holes
      have HV := Lib.hid hV
      have p1 := HME.out.mem.web.blk.cell 1
      simp at p1
      obtain ⟨wp, hwp⟩ : ∃ x, x = wr := ⟨_, rfl⟩
      subst hwp
      clear hV HSN HME hC
      go_wp2_with (at_range; refine wpList_range_own _ rfl _ 82 rfl 3 3 lawM Tryd.underlying82 heldM mb hm.length D rfl hD ?_; intro w5 hrg5 hg5 hs5; refine Hid.out ?_)
      refine Lib.hid ?_
      have HS5 : Hid (WrS B p mb (.slice (some ⟨g, 0, none⟩) n c) tv hm td W r tm lo C l w5 l) := Lib.hid (HWS.out.grown hg5 (fun b e => by cases e))
      have HK5 : Hid (Kb (Wb p mb (.slice (some ⟨g, 0, none⟩) n c) tv) w w5) := Lib.hid (HKB.out.grown hg5 (fun b e => by cases e))
      have HR5 := Lib.hid hrg5
      have hsz5 := rcntM_le hrg5
      obtain ⟨r0, hr0⟩ : ∃ x, wp.heap.size = x := ⟨_, rfl⟩
      rw [hr0] at HR5
      (try rw [hr0])
      have HR0 : Hid (C ≤ r0) := Lib.hid (by have := HCE.out; omega)
      clear hrg5 hg5 hs5 hD hr0 HWS HKB p1 HCE
      go_wp2_with fail
      go_loopg [5] (Maps.size D) (fun gh s5 wx => ∃ (left : Lit → Bool) (cs : List Int) (v : Value), s5 = v ∧ wx.ranges Tryd.prog 3 heldM mb r0 hm.length D left gh ∧ Coll D left cs ∧ WrS B p mb (.slice (some ⟨g, 0, none⟩) n c) tv hm td W r tm lo C l wx l ∧ Kb (Wb p mb (.slice (some ⟨g, 0, none⟩) n c) tv) w wx ∧ wx.ownsRow C 3 1 v cs.length (cs.map (.int .i64)) ∧ cs.length + gh ≤ hm.length ∧ C ≤ wx.heap.size)
      case atStart => exact ⟨_, [], _, rfl, HR5.out, Coll.start D, HS5.out, HK5.out, World.ownsRow_nil _ _ _ _, by simpa using hsz5, by have := HR5.out.lt; have := HR0.out; omega⟩
      case round =>
        clear HS5 HK5 HR5 hkn hkn' k0
        obtain ⟨left, cs, v, rfl, hrg, hcoll, hs, hkb, ho, hlen, hcz⟩ := hrel
        obtain ⟨Av, cv, rfl⟩ := own_shapeP ho
        have HS := Lib.hid hs; have HK := Lib.hid hkb; have HO := Lib.hid ho; have HCO := Lib.hid hcoll; have HCZ := Lib.hid hcz
        clear hs hkb ho hcoll hcz
        go_wp2_with (at_next; refine wpList_next_ranges _ rfl _ rfl 3 lawM heldM (Value.int .i64) (fun v => v) invKM invVM mb r0 hm.length D left _ rfl hrg ?_ ?_)
        · intro hc0 hl0
          obtain ⟨hz, hz1, hz2, hz3⟩ := keys_sorted HV.out HCO.out hl0
          have hzl : hz.length = cs.length := by
            have := congrArg List.length hz1
            simp at this; exact this.symm
          have HZ1 := Lib.hid hz1; have HZ2 := Lib.hid hz2; have HZ3 := Lib.hid hz3; have HZL := Lib.hid hzl
          have hll2 : cs.length < 4611686018427387904 := by omega
          clear hrg hc0 hl0 HCO hz1 hz2 hz3 hzl
          go_wp2_with (go_at_call 47; refine (sortU_any _ cs wr C HO.out hll2).mono ?_; rintro _ w6 ⟨rfl, ho6, hg6⟩; refine Hid.out ?_)
          refine Lib.hid ?_
          have HS6 : Hid (WrS B p mb (.slice (some ⟨g, 0, none⟩) n c) tv hm td W r tm lo C l w6 l) := Lib.hid (HS.out.grown hg6 (fun b e => (HO.out.lt b e).1))
          have HK6 : Hid (Kb (Wb p mb (.slice (some ⟨g, 0, none⟩) n c) tv) w w6) := Lib.hid (HK.out.grown hg6 (fun b e => .inr (by have := (HO.out.lt b e).1; have := HCW.out; omega)))
          have HO6 : Hid (w6.ownsRow C 3 1 (.slice Av cs.length cv) cs.length (natCells hz)) := Lib.hid (by rw [HZ1.out, List.map_map] at ho6; exact ho6)
          have HCZ6 : Hid (C ≤ w6.heap.size) := Lib.hid (Nat.le_trans HCZ.out hg6.size)
          obtain ⟨m, hm_⟩ : ∃ m, cs.length = m := ⟨_, rfl⟩
          rw [hm_] at HO6 HZL hlen hll2
          (try rw [hm_])
          clear ho6 hg6 HS HK HO hm_ HCZ HZ1
          have HCUT : Hid (C ≤ w6.heap.size) := HCZ6
          go_upto_region 15 with fail
          go_loopg [7, 41] m (fun gh s7 s41 wx => ∃ (i : Nat) (bs : List (Nat × Fo)) (vo : Value) (l3 : List PN), s7 = vo ∧ s41 = .int .i64 i ∧ gh = m - i ∧ i ≤ m ∧ WrS B p mb (.slice (some ⟨g, 0, none⟩) n c) tv hm td W r tm lo C l wx l3 ∧ Kb (Wb p mb (.slice (some ⟨g, 0, none⟩) n c) tv) w wx ∧ wx.ownsRow C 3 1 (.slice Av m cv) m (natCells hz) ∧ BTo W r tm lo hz i bs ∧ (∀ q ∈ bs, q.2.size ≤ 256) ∧ OwnRow 2 71 EBind (fun b => C ≤ b) wx C vo (bs.map bindOf) ∧ bs.length ≤ i ∧ C ≤ wx.heap.size)
          case atStart => exact ⟨0, [], _, l, rfl, rfl, rfl, Nat.zero_le _, HS6.out, HK6.out, HO6.out, BTo.start, (fun q hq => by cases hq), OwnRow.nil _ _, Nat.le_refl _, HCZ6.out⟩
          case round =>
            clear HS6 HK6 HO6 HCZ6 HCUT
            obtain ⟨i, bs, vo, l3, hvo, rfl, rfl, hi, hs3, hk3, ho3, hbt, hsm3, hout, hbl, hcz3⟩ := hrel
            replace hvo := hvo.symm
            subst hvo
            have HS := Lib.hid hs3; have HK := Lib.hid hk3; have HO := Lib.hid ho3; have HBT := Lib.hid hbt; have HSMA := Lib.hid hsm3; have HOUT := Lib.hid hout; have HCZ := Lib.hid hcz3
            have HL3 : Hid (l3.length = n) := Lib.hid (by rw [hs3.ups.1]; exact HLX.out)
            have i0 : (0 : Int) ≤ i := by omega
            clear hs3 hk3 ho3 hbt hsm3 hout hcz3
            by_cases him : i < m
            · have him' : (i : Int) < m := by omega
              have hiz : i < hz.length := by rw [HZL.out]; exact him
              obtain ⟨gh, egh, ch⟩ := own_nat HO.out him HZL.out
              subst egh
              obtain ⟨kk, hkk⟩ := (HZ3.out hz[i]).1 (List.getElem_mem hiz)
              have hkn := (HS.out.pw.holes _ _).1 hkk
              have hkn2 : kk < n := by have := hkn.1; rw [HWN.out] at this; exact this
              obtain ⟨h, hh⟩ : ∃ h, hz[i] = h := ⟨_, rfl⟩
              rw [hh] at ch hkk hkn
              have HHI : Hid (∃ hi : i < hz.length, hz[i] = h) := Lib.hid ⟨hiz, hh⟩
              have hhr : h ≤ 2147483647 := HMR.out (h, kk) hkk
              obtain ⟨D3, hD3, hV3⟩ := HS.out.web.holes
              have hlk := look_run (z := .int .i64 0) hD3 hV3 Tryd.underlying82 (zero_int _) (id := (h : Int)) ⟨by omega, by omega⟩
              rw [look_vals (fun a b b' h1 h2 => HU.out.hol b b' a ((HS.out.pw.holes _ _).1 h1).1 ((HS.out.pw.holes _ _).1 h2).1 ((HS.out.pw.holes _ _).1 h1).2 ((HS.out.pw.holes _ _).1 h2).2) hkk] at hlk
              have HKH : Hid (kk < W.n ∧ W.nd kk = .hole h) := Lib.hid hkn
              have p1 := HS.out.web.blk.cell 1
              simp at p1
              have kk0 : (0 : Int) ≤ kk := by omega
              have hh0 : (0 : Int) ≤ h := by omega
              clear hiz hkk hkn hh hD3 hV3
              go_wp2_with fail
              refine (find_web HS.out.web HS.out.pw (by rw [HL3.out]; omega) kk (by rw [HL3.out]; exact hkn2)).mono ?_
              rintro _ w7 ⟨rfl, l7, hg7, hw7, hu7, hp7⟩
              have HS7 : Hid (WrS B p mb (.slice (some ⟨g, 0, none⟩) n c) tv hm td W r tm lo C l w7 l7) := Lib.hid (HS.out.found hw7 hp7 hu7)
              have HK7 : Hid (Kb (Wb p mb (.slice (some ⟨g, 0, none⟩) n c) tv) w w7) := Lib.hid (HK.out.grown hg7 (fun b e => .inl (.inr (.inr (.inl e)))))
              have HOUT7 := Lib.hid (HOUT.out.lowB hg7 HS.out.low.lv)
              have HO7 := Lib.hid (own_lowK HO.out hg7 HS.out.low.lv)
              have HCZ7 : Hid (C ≤ w7.heap.size) := Lib.hid (Nat.le_trans HCZ.out hg7.size)
              have HL7 : Hid (l7.length = n) := Lib.hid (hu7.1.trans HL3.out)
              obtain ⟨T, hT, hxl, hsz⟩ := HLAY.out kk HKH.out.1
              obtain ⟨x, hx⟩ : ∃ x, r kk = x := ⟨_, rfl⟩
              have HXE := Lib.hid hx
              have HR : Hid (x < n ∧ r x = x) := Lib.hid (by
                obtain ⟨dd, hdd⟩ := hp7.uf
                rw [HL7.out] at hdd
                rw [← hx]; exact ⟨hdd.rlt kk hkn2, hdd.idem hkn2⟩)
              have hx7 : x < l7.length := by rw [HL7.out]; exact HR.out.1
              have hsz7 : l7[x].size = min T.size 257 := by
                subst hx
                rw [HS7.out.ups.2 _ hxl hx7]; exact hsz
              rw [hx] at hT
              (try rw [hx])
              have HT := Lib.hid hT
              have hT1 := hT.size_pos
              have p0 := HS7.out.web.blk.cell 0
              have c5 := (HS7.out.web.nodes.rd hx7 (k := 5) (by omega)).1
              have c6 := (HS7.out.web.nodes.rd hx7 (k := 6) (by omega)).1
              have c8 := (HS7.out.web.nodes.rd hx7 (k := 8) (by omega)).1
              simp only [PN.cells, List.getElem?_cons_succ, List.getElem?_cons_zero, HS7.out.pw.term x hx7 HR.out.2] at c5
              simp only [PN.cells, List.getElem?_cons_succ, List.getElem?_cons_zero, HS7.out.pw.low x hx7 HR.out.2] at c6
              simp only [PN.cells, List.getElem?_cons_succ, List.getElem?_cons_zero, hsz7] at c8
              simp at p0
              obtain ⟨sz, hsze⟩ : ∃ z, min T.size 257 = z := ⟨_, rfl⟩
              rw [hsze] at c8
              have HSZ := Lib.hid hsze
              have hx0 : (0 : Int) ≤ x := by omega
              have hxn : (x : Int) < n := by have := HR.out.1; omega
              clear hg7 hw7 hu7 hp7 hx hxl hsz hx7 hsz7 hT hsze HS HK HOUT HO HCZ ch hlk p1
              cases hTX : tm x with
              | none =>
                rw [hTX] at c5
                replace c5 : w7.cell? ⟨g, x * 9 + 5, none⟩ = some (.int .i64 (-1)) := c5
                by_cases hlo : lo x = h
                · have HSK : Hid (BTo W r tm lo hz (i + 1) bs) := Lib.hid (HBT.out.skip HU.out HHI.out.1 HKH.out.1 (by rw [HHI.out.2]; exact HKH.out.2) (by rw [HXE.out]; exact hTX) (by rw [HXE.out, HHI.out.2]; exact hlo))
                  rw [hlo] at c6
                  clear hlo hTX
                  go_wp2_with fail
                  go_roundg (m - (i + 1))
                  case measure => omega
                  case rel => exact ⟨i + 1, bs, _, l7, rfl, by go_num, rfl, by omega, HS7.out, HK7.out, HO7.out, HSK.out, HSMA.out, HOUT7.out, by omega, HCZ7.out⟩
                · have HNS : Hid (¬ (tm (r kk) = none ∧ lo (r kk) = h)) := Lib.hid (fun e => hlo (by rw [← HXE.out]; exact e.2))
                  obtain ⟨lx, hlx⟩ : ∃ z, lo x = z := ⟨_, rfl⟩
                  rw [hlx] at c6 hlo
                  have hb : ((lx : Int) == h) = false := beq_eq_false_iff_ne.2 (by omega)
                  clear hlo hTX hlx
                  by_cases h256 : T.size ≤ 256
                  · have hsz2 : sz = T.size := by have := HSZ.out; omega
                    have hsz3 : ¬ (256 : Int) < sz := by omega
                    have HCALL : Hid (Calls Tryd.prog 48 #[.pointer (some ⟨p, 0, none⟩), .slice none 0 0, .int .i64 x] w7 (WritePost w7 B p mb (.slice (some ⟨g, 0, none⟩) n c) tv hm td W r tm lo w7.heap.size l7 (.slice none 0 0) [] (T.flat 0) (fun _ => False))) := Lib.hid (uwrite_any B p mb tv hm td W r tm lo E HU.out g n c hn hc HCM.out w7.heap.size T.size T w7 l7 x (.slice none 0 0) [] (fun _ => False) (Nat.le_refl _) (by rw [HR.out.2]; exact HT.out) HR.out.1 HL7.out ⟨HS7.out.web, HS7.out.pw, Ups.refl _, HS7.out.web.lows (Nat.le_refl _)⟩ (Nat.le_refl _) (OwnX.nil _ _) (fun _ h => h.elim) (by simpa using h256))
                    have HBP : Hid (BTo W r tm lo hz (i + 1) (bs ++ [(h, T)])) := Lib.hid (by
                      have := HBT.out.put HU.out HZ2.out HHI.out.1 HKH.out.1 (by rw [HHI.out.2]; exact HKH.out.2) (by rw [HXE.out]; exact HT.out) (by rw [HHI.out.2]; exact HNS.out)
                      rw [HHI.out.2] at this; exact this)
                    have H256 := Lib.hid h256
                    clear hsz2 h256
                    go_wp2_with fail
                    clear p0 c5 c6 c8
                    refine HCALL.out.mono ?_
                    clear HCALL
                    rintro _ w8 ⟨A8, c8, l8, rfl, hO8, hS8, hK8, -⟩
                    have hg8 := grown_of_wrB hK8
                    obtain ⟨q8, hq8⟩ : ∃ q8, ([] : List TN).length + (T.flat 0).length = q8 := ⟨_, rfl⟩
                    have hq8' : (T.flat 0).length = q8 := by rw [← hq8]; simp
                    rw [hq8] at hO8
                    (try rw [hq8])
                    rw [List.nil_append] at hO8
                    have HS8 : Hid (WrS B p mb (.slice (some ⟨g, 0, none⟩) n c) tv hm td W r tm lo C l w8 l8) := Lib.hid ⟨hS8.web, hS8.pw, HS7.out.ups.trans hS8.ups, HS7.out.low.ups hS8.ups⟩
                    have HK8 : Hid (Kb (Wb p mb (.slice (some ⟨g, 0, none⟩) n c) tv) w w8) := Lib.hid (HK7.out.grown hg8 (fun b e => .inl (.inr (.inr (.inl e)))))
                    have HOUT8 := Lib.hid (HOUT7.out.lowB hg8 HS7.out.low.lv)
                    have HO8 := Lib.hid (own_lowK HO7.out hg8 HS7.out.low.lv)
                    have HCZ8 : Hid (C ≤ w8.heap.size) := Lib.hid (Nat.le_trans HCZ7.out hg8.size)
                    have HVB : Hid (∀ b, vo.ownBlock = some b → C ≤ b ∧ b < w7.heap.size) := Lib.hid (fun b e => by
                      obtain ⟨xs, hxs⟩ := HOUT7.out.owns
                      exact hxs.lt b e)
                    have HEL : Hid (EBind (w8.alloc (.cells #[.int .i64 h, .slice A8 q8 c8] 71)) (Oth (fun b => C ≤ b) (w8.alloc (.cells #[.int .i64 h, .slice A8 q8 c8] 71)) vo) ⟨(h : Int), T.flat 0⟩ [.int .i64 h, .slice A8 q8 c8]) := Lib.hid ⟨_, rfl, (hO8.alloc _).nodes.isRow (fun b h1 h2 => ⟨by have := HCZ7.out; omega, h2, fun e => by have := (HVB.out b e).2; omega⟩)⟩
                    have HBL : Hid ((bs.map bindOf).length = bs.length) := Lib.hid (by simp)
                    clear hq8 hq8' hO8 hS8 hK8 hg8 HS7 HK7 HOUT7 HO7 HCZ7
                    go_wp2_with (at_builtin; refine wpList_push _ EBind.stays (F := fun b => C ≤ b) rfl (.tmp 83) (.tmp 90) 40 rfl C 71 Tryd.underlying40 ubind_infoB rfl (by omega) vo (bs.map bindOf) rfl (HOUT8.out.alloc EBind.stays _) ⟨(h : Int), T.flat 0⟩ ⟨w8.heap.size, 0, none⟩ 1 [.int .i64 h, .slice A8 q8 c8] rfl rfl (news_cells (Blk.new w8 71 #[.int .i64 h, .slice A8 q8 c8])) (by intro u hu; simp only [List.mem_cons, List.not_mem_nil, or_false] at hu; rcases hu with rfl | rfl <;> rfl) HEL.out ?d3 ?d4 ?d5 ?d6)
                    try (case d3 => rw [HBL.out]; unfold maxLen; omega)
                    try (case d4 => rw [HBL.out]; omega)
                    try (case d5 => have := HCZ8.out; simp; omega)
                    case d6 =>
                    intro A9 c9 w9 hown9 hg9 hat9
                    have HS9 : Hid (WrS B p mb (.slice (some ⟨g, 0, none⟩) n c) tv hm td W r tm lo C l w9 l8) := Lib.hid ((HS8.out.alloc _).grown hg9 (fun b e => (HVB.out b e).1))
                    have HK9 : Hid (Kb (Wb p mb (.slice (some ⟨g, 0, none⟩) n c) tv) w w9) := Lib.hid ((HK8.out.alloc _).grown hg9 (fun b e => .inr (by have := (HVB.out b e).1; have := HCW.out; omega)))
                    have HO9 : Hid (w9.ownsRow C 3 1 (.slice (some ⟨gh, 0, none⟩) m cv) m (natCells hz)) := Lib.hid ((HO8.out.alloc _).kept hg9 (.inr (fun e => by
                      obtain ⟨xs, hxs⟩ := HOUT8.out.owns
                      exact own_type_ne HO8.out hxs (by decide) gh rfl e.symm)))
                    have HOUT9 : Hid (OwnRow 2 71 EBind (fun b => C ≤ b) w9 C (.slice A9 (bs.length + 1) c9) ((bs ++ [(h, T)]).map bindOf)) := Lib.hid (by rw [List.map_append]; exact hown9)
                    have HCZ9 : Hid (C ≤ w9.heap.size) := Lib.hid (by have h1 := hg9.size; have h2 := HCZ8.out; simp at h1; omega)
                    (try rw [HBL.out])
                    clear hown9 hg9 hat9 HEL
                    go_wp2_with fail
                    go_roundg (m - (i + 1))
                    case measure => omega
                    case rel => exact ⟨i + 1, bs ++ [(h, T)], _, l8, rfl, by go_num, rfl, by omega, HS9.out, HK9.out, HO9.out, HBP.out, (fun q hq => by
                      rcases List.mem_append.1 hq with h1 | h1
                      · exact HSMA.out q h1
                      · simp only [List.mem_cons, List.not_mem_nil, or_false] at h1; subst h1; exact H256.out), HOUT9.out, by simp; omega, HCZ9.out⟩
                  · have hsz2 : sz = 257 := by have := HSZ.out; omega
                    have hsz3 : (256 : Int) < sz := by omega
                    have HLO : Hid (Comes E .long) := Lib.hid (HBT.out.long HU.out HMT.out HZ2.out (fun y hy => let ⟨k, hk⟩ := (HZ3.out y).1 hy; ⟨k, (HS7.out.pw.holes _ _).1 hk⟩) (fun k y hk hy => (HZ3.out y).2 ⟨k, (HS7.out.pw.holes _ _).2 ⟨hk, hy⟩⟩) (fun k hk => let ⟨T, h1, _⟩ := HLAY.out k hk; ⟨T, h1⟩) HHI.out.1 HKH.out.1 (by rw [HHI.out.2]; exact HKH.out.2) (by rw [HXE.out]; exact HT.out) (by omega))
                    clear hsz2
                    go_wp2_with fail
                    refine bodyPost_ret (v := .tuple #[.slice none 0 0, .int .i64 3]) (by simp [results, Tryd.results37, go_sem]) rfl ?_
                    exact ⟨.long, HLO.out, rfl, HK7.out⟩
              | some t =>
                rw [hTX] at c5
                replace c5 : w7.cell? ⟨g, x * 9 + 5, none⟩ = some (.int .i64 t) := c5
                have HNS : Hid (¬ (tm (r kk) = none ∧ lo (r kk) = h)) := Lib.hid (fun e => by have := e.1; rw [HXE.out, hTX] at this; cases this)
                have ht0 : (0 : Int) ≤ t := by omega
                clear hTX
                by_cases h256 : T.size ≤ 256
                · have hsz2 : sz = T.size := by have := HSZ.out; omega
                  have hsz3 : ¬ (256 : Int) < sz := by omega
                  have HCALL : Hid (Calls Tryd.prog 48 #[.pointer (some ⟨p, 0, none⟩), .slice none 0 0, .int .i64 x] w7 (WritePost w7 B p mb (.slice (some ⟨g, 0, none⟩) n c) tv hm td W r tm lo w7.heap.size l7 (.slice none 0 0) [] (T.flat 0) (fun _ => False))) := Lib.hid (uwrite_any B p mb tv hm td W r tm lo E HU.out g n c hn hc HCM.out w7.heap.size T.size T w7 l7 x (.slice none 0 0) [] (fun _ => False) (Nat.le_refl _) (by rw [HR.out.2]; exact HT.out) HR.out.1 HL7.out ⟨HS7.out.web, HS7.out.pw, Ups.refl _, HS7.out.web.lows (Nat.le_refl _)⟩ (Nat.le_refl _) (OwnX.nil _ _) (fun _ h => h.elim) (by simpa using h256))
                  have HBP : Hid (BTo W r tm lo hz (i + 1) (bs ++ [(h, T)])) := Lib.hid (by
                    have := HBT.out.put HU.out HZ2.out HHI.out.1 HKH.out.1 (by rw [HHI.out.2]; exact HKH.out.2) (by rw [HXE.out]; exact HT.out) (by rw [HHI.out.2]; exact HNS.out)
                    rw [HHI.out.2] at this; exact this)
                  have H256 := Lib.hid h256
                  clear hsz2 h256
                  go_wp2_with fail
                  clear p0 c5 c6 c8
                  refine HCALL.out.mono ?_
                  clear HCALL
                  rintro _ w8 ⟨A8, c8, l8, rfl, hO8, hS8, hK8, -⟩
                  have hg8 := grown_of_wrB hK8
                  obtain ⟨q8, hq8⟩ : ∃ q8, ([] : List TN).length + (T.flat 0).length = q8 := ⟨_, rfl⟩
                  have hq8' : (T.flat 0).length = q8 := by rw [← hq8]; simp
                  rw [hq8] at hO8
                  (try rw [hq8])
                  rw [List.nil_append] at hO8
                  have HS8 : Hid (WrS B p mb (.slice (some ⟨g, 0, none⟩) n c) tv hm td W r tm lo C l w8 l8) := Lib.hid ⟨hS8.web, hS8.pw, HS7.out.ups.trans hS8.ups, HS7.out.low.ups hS8.ups⟩
                  have HK8 : Hid (Kb (Wb p mb (.slice (some ⟨g, 0, none⟩) n c) tv) w w8) := Lib.hid (HK7.out.grown hg8 (fun b e => .inl (.inr (.inr (.inl e)))))
                  have HOUT8 := Lib.hid (HOUT7.out.lowB hg8 HS7.out.low.lv)
                  have HO8 := Lib.hid (own_lowK HO7.out hg8 HS7.out.low.lv)
                  have HCZ8 : Hid (C ≤ w8.heap.size) := Lib.hid (Nat.le_trans HCZ7.out hg8.size)
                  have HVB : Hid (∀ b, vo.ownBlock = some b → C ≤ b ∧ b < w7.heap.size) := Lib.hid (fun b e => by
                    obtain ⟨xs, hxs⟩ := HOUT7.out.owns
                    exact hxs.lt b e)
                  have HEL : Hid (EBind (w8.alloc (.cells #[.int .i64 h, .slice A8 q8 c8] 71)) (Oth (fun b => C ≤ b) (w8.alloc (.cells #[.int .i64 h, .slice A8 q8 c8] 71)) vo) ⟨(h : Int), T.flat 0⟩ [.int .i64 h, .slice A8 q8 c8]) := Lib.hid ⟨_, rfl, (hO8.alloc _).nodes.isRow (fun b h1 h2 => ⟨by have := HCZ7.out; omega, h2, fun e => by have := (HVB.out b e).2; omega⟩)⟩
                  have HBL : Hid ((bs.map bindOf).length = bs.length) := Lib.hid (by simp)
                  clear hq8 hq8' hO8 hS8 hK8 hg8 HS7 HK7 HOUT7 HO7 HCZ7
                  go_wp2_with (at_builtin; refine wpList_push _ EBind.stays (F := fun b => C ≤ b) rfl (.tmp 83) (.tmp 90) 40 rfl C 71 Tryd.underlying40 ubind_infoB rfl (by omega) vo (bs.map bindOf) rfl (HOUT8.out.alloc EBind.stays _) ⟨(h : Int), T.flat 0⟩ ⟨w8.heap.size, 0, none⟩ 1 [.int .i64 h, .slice A8 q8 c8] rfl rfl (news_cells (Blk.new w8 71 #[.int .i64 h, .slice A8 q8 c8])) (by intro u hu; simp only [List.mem_cons, List.not_mem_nil, or_false] at hu; rcases hu with rfl | rfl <;> rfl) HEL.out ?d3 ?d4 ?d5 ?d6)
                  try (case d3 => rw [HBL.out]; unfold maxLen; omega)
                  try (case d4 => rw [HBL.out]; omega)
                  try (case d5 => have := HCZ8.out; simp; omega)
                  case d6 =>
                  intro A9 c9 w9 hown9 hg9 hat9
                  have HS9 : Hid (WrS B p mb (.slice (some ⟨g, 0, none⟩) n c) tv hm td W r tm lo C l w9 l8) := Lib.hid ((HS8.out.alloc _).grown hg9 (fun b e => (HVB.out b e).1))
                  have HK9 : Hid (Kb (Wb p mb (.slice (some ⟨g, 0, none⟩) n c) tv) w w9) := Lib.hid ((HK8.out.alloc _).grown hg9 (fun b e => .inr (by have := (HVB.out b e).1; have := HCW.out; omega)))
                  have HO9 : Hid (w9.ownsRow C 3 1 (.slice (some ⟨gh, 0, none⟩) m cv) m (natCells hz)) := Lib.hid ((HO8.out.alloc _).kept hg9 (.inr (fun e => by
                    obtain ⟨xs, hxs⟩ := HOUT8.out.owns
                    exact own_type_ne HO8.out hxs (by decide) gh rfl e.symm)))
                  have HOUT9 : Hid (OwnRow 2 71 EBind (fun b => C ≤ b) w9 C (.slice A9 (bs.length + 1) c9) ((bs ++ [(h, T)]).map bindOf)) := Lib.hid (by rw [List.map_append]; exact hown9)
                  have HCZ9 : Hid (C ≤ w9.heap.size) := Lib.hid (by have h1 := hg9.size; have h2 := HCZ8.out; simp at h1; omega)
                  (try rw [HBL.out])
                  clear hown9 hg9 hat9 HEL
                  go_wp2_with fail
                  go_roundg (m - (i + 1))
                  case measure => omega
                  case rel => exact ⟨i + 1, bs ++ [(h, T)], _, l8, rfl, by go_num, rfl, by omega, HS9.out, HK9.out, HO9.out, HBP.out, (fun q hq => by
                    rcases List.mem_append.1 hq with h1 | h1
                    · exact HSMA.out q h1
                    · simp only [List.mem_cons, List.not_mem_nil, or_false] at h1; subst h1; exact H256.out), HOUT9.out, by simp; omega, HCZ9.out⟩
                · have hsz2 : sz = 257 := by have := HSZ.out; omega
                  have hsz3 : (256 : Int) < sz := by omega
                  have HLO : Hid (Comes E .long) := Lib.hid (HBT.out.long HU.out HMT.out HZ2.out (fun y hy => let ⟨k, hk⟩ := (HZ3.out y).1 hy; ⟨k, (HS7.out.pw.holes _ _).1 hk⟩) (fun k y hk hy => (HZ3.out y).2 ⟨k, (HS7.out.pw.holes _ _).2 ⟨hk, hy⟩⟩) (fun k hk => let ⟨T, h1, _⟩ := HLAY.out k hk; ⟨T, h1⟩) HHI.out.1 HKH.out.1 (by rw [HHI.out.2]; exact HKH.out.2) (by rw [HXE.out]; exact HT.out) (by omega))
                  clear hsz2
                  go_wp2_with fail
                  refine bodyPost_ret (v := .tuple #[.slice none 0 0, .int .i64 3]) (by simp [results, Tryd.results37, go_sem]) rfl ?_
                  exact ⟨.long, HLO.out, rfl, HK7.out⟩
            · have him' : ¬ (i : Int) < m := by omega
              have HLI := Lib.hid (HBT.out.listed (by rw [HZL.out]; exact him) (fun k y hk hy => (HZ3.out y).2 ⟨k, (HS.out.pw.holes _ _).2 ⟨hk, hy⟩⟩))
              have HCO : Hid (Comes E (.ok bs)) := Lib.hid (all_meets HU.out HMT.out (fun k hk => let ⟨T, h1, _⟩ := HLAY.out k hk; ⟨T, h1⟩) HLI.out HSMA.out)
              go_wp2_with fail
              refine bodyPost_ret (v := .tuple #[vo, .int .i64 0]) (by simp [results, Tryd.results37, go_sem]) rfl ?_
              exact ⟨.ok bs, HCO.out, ⟨_, rfl, HOUT.out.isRow EBind.stays (fun b h1 h2 => ⟨by have := HCW.out; omega, h2⟩) (fun b h1 h2 => ⟨by have := HCW.out; omega, h2⟩)⟩, HK.out⟩
        · intro x cc kl yy ps w5 cnt' hkey hlk hv hat hrg5 hlt hgr hsz hen
          have hhas : Maps.has D kl = true := Maps.has_true_of_atKey hat
          obtain ⟨x', ex, rfl, _⟩ := Maps.keyOf_int_inv Tryd.underlying3 hkey
          cases ex
          have HCO5 := Lib.hid (HCO.out.step (x := x) hlk hhas)
          have HS5 : Hid (WrS B p mb (.slice (some ⟨g, 0, none⟩) n c) tv hm td W r tm lo C l w5 l) := Lib.hid (HS.out.grown hgr (fun b e => by cases e; exact HR0.out))
          have HK5 : Hid (Kb (Wb p mb (.slice (some ⟨g, 0, none⟩) n c) tv) w w5) := Lib.hid (HK.out.grown hgr (fun b e => by cases e; exact .inr (by have := HR0.out; have := HCW.out; omega)))
          have hne : (.slice Av cs.length cv : Value).ownBlock ≠ some r0 := own_ne_iterM HO.out hrg
          have HO5 : Hid (w5.ownsRow C 3 1 (.slice Av cs.length cv) cs.length (cs.map (.int .i64))) := Lib.hid (HO.out.kept hgr (.inr hne))
          have HR5 := Lib.hid hrg5
          have HCZ5 : Hid (C ≤ w5.heap.size) := Lib.hid (Nat.le_trans HCZ.out hgr.size)
          clear hkey hlk hv hat hgr hsz hrg hrg5 hne HCO HS HK HO hhas HCZ
          go_wp2_with (at_builtin; refine wpList_append_from _ rfl (.tmp 33) (.tmp 35) 51 rfl C 3 Tryd.underlying51 int_info15 rfl (by omega) (.slice Av cs.length cv) cs.length (cs.map (.int .i64)) rfl (HO5.out.alloc _) (some ⟨w5.heap.size, 0, none⟩) 1 1 [.int .i64 x] rfl rfl (by simp) (fun ad e => by cases e; exact news_cells (Blk.new w5 3 #[.int .i64 x])) (by intro u hu; simp at hu; subst hu; rfl) (by unfold maxLen; omega) (by omega) (by have := HCZ5.out; simp; omega) ?a7)
          case a7 =>
          intro A7 c7 w7 hown7 hg7 hat7
          have HS7 : Hid (WrS B p mb (.slice (some ⟨g, 0, none⟩) n c) tv hm td W r tm lo C l w7 l) := Lib.hid ((HS5.out.alloc _).grown hg7 (fun b e => (HO5.out.lt b e).1))
          have HK7 : Hid (Kb (Wb p mb (.slice (some ⟨g, 0, none⟩) n c) tv) w w7) := Lib.hid ((HK5.out.alloc _).grown hg7 (fun b e => .inr (by have := (HO5.out.lt b e).1; have := HCW.out; omega)))
          have HR7 := Lib.hid ((HR5.out.alloc (.cells #[.int .i64 x] 3)).kept hg7 (fun e => map_ne_row HR5.out.owns HO5.out e.symm) (fun e => own_ne_iterM HO5.out HR5.out e.symm))
          have HO7 : Hid (w7.ownsRow C 3 1 (.slice A7 (cs.length + 1) c7) (cs ++ [x]).length ((cs ++ [x]).map (.int .i64))) := Lib.hid (by simpa using hown7)
          have HCZ7 : Hid (C ≤ w7.heap.size) := Lib.hid (by have h1 := hg7.size; have h2 := HCZ5.out; simp at h1; omega)
          clear hown7 hg7 hat7 hen
          go_wp2_with fail
          go_roundg cnt'
          case measure => omega
          case rel => exact ⟨_, cs ++ [x], _, rfl, HR7.out, HCO5.out, HS7.out, HK7.out, HO7.out, by rw [List.length_append]; simp; omega, HCZ7.out⟩
end Go.Proofs.YtgcbnndbeoekgaaDoor
end
