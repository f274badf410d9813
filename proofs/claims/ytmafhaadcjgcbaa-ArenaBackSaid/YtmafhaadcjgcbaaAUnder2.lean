import Derived.Test.YtmafhaadcjgcbaaAOwnI
import Derived.Test.YtmafhaadcjgcbaaATree
import Derived.Test.YtmafhaadcjgcbaaAAlone
import Derived.Laws.EntriesVeiled
set_option linter.unusedSimpArgs false
set_option linter.unusedVariables false
section
namespace Go.Proofs.Ytmafhaadcjgcbaa
open Go Go.RowKit

theorem prefix_len {m : AModel} (x : ANode) (k : Nat) : ((x.kids.take k).flatMap fun c => c :: belowL m c).length ≤ (x.kids.flatMap fun c => c :: belowL m c).length := by
  conv => rhs; rw [← List.take_append_drop k x.kids]
  rw [List.flatMap_append, List.length_append]; omega
theorem prefix_succ {m : AModel} {x : ANode} {k : Nat} (hk : k < x.kids.length) : ((x.kids.take (k + 1)).flatMap fun c => c :: belowL m c) = ((x.kids.take k).flatMap fun c => c :: belowL m c) ++ (x.kids[k] :: belowL m x.kids[k]) := by
  rw [List.take_succ_eq_append_getElem hk, List.flatMap_append]; simp
/-- the closure's cell -/
def downFn (mb ob db : Nat) : Value := .func (.func 116) #[] #[.pointer (some ⟨mb, 0, none⟩), .pointer (some ⟨ob, 0, none⟩), .pointer (some ⟨db, 0, none⟩)]

set_option maxRecDepth 100000 in
set_option maxHeartbeats 2000000 in
theorem under1_any (A : Option Addr) (c : Nat) (m : AModel) (W : World) (F : Nat → Prop) (B mb ob db : Nat) (hT : Tree m) (hs : SrtB m.nodes) (hr : ∀ x ∈ m.nodes, ∀ k ∈ x.kids, InR k) (hl4 : m.nodes.length ≤ 4096)
    (hF : ∀ b, F b → b < B ∧ b ≠ ob) (hmb : mb < B ∧ mb ≠ ob) (hdb : db < B ∧ db ≠ ob) (hob : ob < B) :
    ∀ x ∈ m.nodes, ∀ (w : World) (v : Value) (l : List Int), l.length + (belowL m x.id).length ≤ 8192 → B ≤ w.heap.size → RowOf 7 ENode w F A m.nodes → Blk w mb 24 #[.int .i64 m.next, .slice A m.nodes.length c] → Blk w db 124 #[downFn mb ob db] → Blk w ob 35 #[v] → OwnI w B v l →
    Calls Try.prog 116 #[.int .i64 x.id, .pointer (some ⟨mb, 0, none⟩), .pointer (some ⟨ob, 0, none⟩), .pointer (some ⟨db, 0, none⟩)] w
      fun e w' => e = .returned (.tuple #[]) ∧ ∃ v', KB B ob w w' ∧ Blk w' ob 35 #[v'] ∧ OwnI w' B v' (l ++ belowL m x.id) := by
  refine hT.induct fun x hx ih w v l hlen hBw h hm hd ho hown => ?_
  obtain ⟨j, hj, hje⟩ := List.getElem_of_mem hx
  have hBE := hT.below_eq hx
  rw [hBE] at hlen ⊢
  have HB0 := Lib.hid hm; have HD := Lib.hid hd; have HO := Lib.hid ho; have HOWN := Lib.hid hown; have HX := Lib.hid hx; have HIH := Lib.hid ih; have HT := Lib.hid hT; have HS := Lib.hid hs; have HR := Lib.hid hr
  have HH := Lib.hid h
  obtain ⟨b, off, Sp, cp, Sk, ck, Sr, cr, rfl, hbF, d0, d1, d2, d3, d4, d5, d6, _, ⟨hk1, hk2, hk3⟩, _⟩ := node_at h hj
  rw [hje] at d5 hk1 hk3
  unfold maxLen at hk2
  have m0 := hm.cell 0; have m1 := hm.cell 1
  have hmlt := hm.lt; have hdlt := hd.lt; have holt := ho.lt
  simp at m0 m1
  have j0 : (0 : Int) ≤ j := by omega
  have j1 : (j : Int) < m.nodes.length := by omega
  have hFw : ∀ b, F b → b < w.heap.size := fun b hb => by have := hF b hb; omega
  have hid : InR x.id := by have := hs.2 j hj; rw [hje] at this; unfold InR; omega
  have hat : atI m.nodes x.id = j := by rw [← hje]; exact atI_some hs.1 hj rfl
  have CP := Lib.hid (fun (d : Nat) (os : Array Obj) => Calls.regrown_of (w := w) (d := d) (os := os) (by
    have := place_any (some ⟨b, off, none⟩) c m.next x.id m.nodes (Sort.grow (redrawn w d) os) F (fun b hb' => Nat.lt_of_lt_of_le (hFw b hb') (below_regrown w d os).size) (h.keep ENode.stays (Keep.below (below_regrown w d os) hFw) (fun _ h => h)) hs hid (by omega)
    rw [hat] at this; exact this))
  have HK3 := Lib.hid hk3
  have HLEN := Lib.hid hlen
  have hk63 : x.kids.length ≤ 9223372036854775807 := by omega
  have HJE := Lib.hid hje
  clear hje hBE hm hd ho hown hx ih hT hs hr h hk3 hlen hat hid d0 d1 d2 d3 d4 d6
  go_enter Try.func116, Try.ntmps116
  have k0 := cell_regrown m0; have k1 := cell_regrown m1; have k5 := cell_regrown d5
  clear m0 m1 d5
  go_wp2_with fail
  refine wp_region_quiet_below (by kernel_rfl) (by kernel_rfl) ?_
  repeat (first | go_big_quiet_step (exact CP.out _ _) | quiet_step (exact CP.out _ _))
  refine wpQuiet_nil ?_
  intro _ hw'
  obtain ⟨⟨dq, osq⟩, hw''⟩ := hw'
  subst hw''
  have HW1 := Lib.hid (below_regrown w dq osq)
  clear k0 k1 k5 CP
  go_wp2_with fail
  go_loopg [16] x.kids.length (fun g s16 wx => ∃ (k : Nat) (v' : Value), s16 = .int .i64 k ∧ g = x.kids.length - k ∧ k ≤ x.kids.length ∧ KB B ob w wx ∧ Blk wx ob 35 #[v'] ∧ OwnI wx B v' (l ++ (x.kids.take k).flatMap fun c => c :: belowL m c))
  case atStart => exact ⟨0, v, rfl, rfl, Nat.zero_le _, KB.of_below (HW1.out.mono hBw), HO.out.below HW1.out holt, by simpa using HOWN.out.below HW1.out⟩
  case round =>
    clear HW1 HOWN HO
    obtain ⟨k, v', rfl, rfl, hkk, hkb, ho, hown⟩ := hrel
    obtain ⟨A', c', rfl⟩ := hown.shape
    have HKB := Lib.hid hkb; have HO := Lib.hid ho; have HOWN := Lib.hid hown
    have hsz := hkb.size
    have o0 := ho.cell 0; have z0 := ho.frozen 0
    have holt := ho.lt
    simp only [List.getElem?_toArray, List.getElem?_cons_zero] at o0
    clear ho hown
    have hll : (l ++ (x.kids.take k).flatMap fun c => c :: belowL m c).length ≤ 8192 := by have := HLEN.out; have := prefix_len (m := m) x k; rw [List.length_append]; omega
    by_cases hlt : k < x.kids.length
    · have hlt' : (k : Int) < x.kids.length := by omega
      have i0 : (0 : Int) ≤ k := by omega
      obtain ⟨b', off', rfl, hbF', e0⟩ := int_at (RowOf.keep EInt.stays (hkb.keep hF) (F' := F) (fun _ h => h) HK3.out) hlt
      obtain ⟨y, hy, hyk, _, _⟩ := HT.out.kid HX.out (List.getElem_mem hlt)
      have HYK := Lib.hid hyk
      have HYM : Hid (y.id ∈ x.kids) := Lib.hid (by rw [hyk]; exact List.getElem_mem hlt)
      have HNX := Lib.hid (prefix_succ (m := m) hlt)
      have hnl : (l ++ (x.kids.take k).flatMap fun c => c :: belowL m c).length + 1 + (belowL m x.kids[k]).length ≤ 8192 := by
        have h1 := HLEN.out; have h2 := prefix_len (m := m) x (k + 1); rw [HNX.out, List.length_append, List.length_cons] at h2; rw [List.length_append]; omega
      have hdb0 := (HKB.out.blk HD.out hdb.1 hdb.2).cell 0
      have hdlt2 := (HKB.out.blk HD.out hdb.1 hdb.2).lt
      simp only [List.getElem?_toArray, List.getElem?_cons_zero] at hdb0
      clear hkb hyk
      obtain ⟨L, hL⟩ : ∃ L, (l ++ (x.kids.take k).flatMap fun c => c :: belowL m c) = L := ⟨_, rfl⟩
      rw [hL] at HOWN hll hnl o0 HO
      have HL := Lib.hid hL; clear hL
      have hBr : B ≤ wr.heap.size := by omega
      have HOW1 := Lib.hid (HOWN.out.alloc (.cells #[.int .i64 x.kids[k]] 3))
      go_wp2_with (at_builtin; refine wpList_pushI rfl (.tmp 20) (.tmp 22) rfl ?a1 HOW1.out x.kids[k] wr.heap.size ?a2 ?a3 ?a4 ?a5 ?a6)
      case a1 => rfl
      case a2 => rfl
      case a3 => exact Blk.new _ _ _
      case a4 => omega
      case a5 => simp; omega
      case a6 =>
        intro A2 c2 w2 own2 hg2 _
        have HOW2 := Lib.hid own2
        have HB2 := Lib.hid (((Below.refl B wr).alloc hBr (.cells #[.int .i64 x.kids[k]] 3)).grown hg2 (by simp; omega) (fun b e => (HOWN.out.lt b e).1))
        have HO2 := Lib.hid (HO.out.below HB2.out hob)
        have o0 := HO2.out.cell 0; have z0 := HO2.out.frozen 0
        have holt2 := HO2.out.lt
        have hdb1 := ((HKB.out.blk HD.out hdb.1 hdb.2).below HB2.out hdb.1).cell 0
        have hdlt3 := ((HKB.out.blk HD.out hdb.1 hdb.2).below HB2.out hdb.1).lt
        have hsz2 := HB2.out.size
        simp only [List.getElem?_toArray, List.getElem?_cons_zero] at o0 hdb1
        have hne : db ≠ ob := hdb.2
        clear own2 hg2 hdb0 e0
        have HK2 := Lib.hid ((KB.of_below (p := ob) HB2.out).set_ 0 (.slice A2 (L.length + 1) c2))
        have HOS : Hid (Blk (w2.setCell ⟨ob, 0, none⟩ (.slice A2 (L.length + 1) c2)) ob 35 #[.slice A2 (L.length + 1) c2]) := Lib.hid (by simpa using HO2.out.set_ 0 (.slice A2 (L.length + 1) c2))
        unfold downFn at hdb1
        go_wp2_with fail
        have HC := Lib.hid (HIH.out y hy HYM.out (w2.setCell ⟨ob, 0, none⟩ (.slice A2 (L.length + 1) c2)) _ (L ++ [x.kids[k]]) (by rw [HYK.out]; simp; omega) (by simp; omega) (RowOf.keep ENode.stays ((HKB.out.trans HK2.out).keep hF) (F' := F) (fun _ h => h) HH.out) ((HKB.out.trans HK2.out).blk HB0.out hmb.1 hmb.2) ((HKB.out.trans HK2.out).blk HD.out hdb.1 hdb.2) HOS.out (HOW2.out.far hob _))
        rw [HYK.out] at HC
        refine HC.out.mono ?_
        rintro _ w4 ⟨rfl, v4, hk4, ho4, hown4⟩
        have HK4 := Lib.hid ((HKB.out.trans HK2.out).trans hk4)
        have HO4 := Lib.hid ho4
        have HOW4 : Hid (OwnI w4 B v4 (l ++ (x.kids.take (k + 1)).flatMap fun c => c :: belowL m c)) := Lib.hid (by rw [HNX.out, ← List.append_assoc, HL.out]; simpa using hown4)
        clear hk4 ho4 hown4
        go_wp2
        go_roundg (x.kids.length - (k + 1))
        case measure => omega
        case rel => exact ⟨k + 1, v4, by go_num, rfl, by omega, HK4.out, HO4.out, HOW4.out⟩
    · have hlt' : decide ((k : Int) < x.kids.length) = false := decide_eq_false (by omega)
      have ht : x.kids.take k = x.kids := List.take_of_length_le (by omega)
      rw [ht] at HOWN HO
      clear hkb ht
      go_wp2
      go_end0
      exact ⟨rfl, _, HKB.out, HO.out, HOWN.out⟩
end Go.Proofs.Ytmafhaadcjgcbaa
end
section
namespace Go.Proofs.Ytmafhaadcjgcbaa
open Go Go.RowKit

set_option maxRecDepth 100000 in
set_option maxHeartbeats 1000000 in
theorem under_any (A : Option Addr) (c : Nat) (m : AModel) (w : World) (F : Nat → Prop) (hF : ∀ b, F b → b < w.heap.size) (h : RowOf 7 ENode w F A m.nodes) (hT : Tree m) (hs : SrtB m.nodes) (hr : ∀ x ∈ m.nodes, ∀ k ∈ x.kids, InR k) (hl4 : m.nodes.length ≤ 4096) (x : ANode) (hx : x ∈ m.nodes) :
    Calls Try.prog 75 #[.agg #[.int .i64 m.next, .slice A m.nodes.length c], .int .i64 x.id] w fun e w' => ∃ v, e = .returned v ∧ OwnI w' w.heap.size v (belowL m x.id) ∧ Below w.heap.size w w' := by
  have HH := Lib.hid h
  go_enter Try.func75, Try.ntmps75
  go_wp2_with fail
  refine (under1_any A c m w F (w.heap.size + 3) w.heap.size (w.heap.size + 1) (w.heap.size + 1 + 1) hT hs hr hl4 (fun b hb => by have := hF b hb; omega) (by omega) (by omega) (by omega) x hx
    (((w.alloc (.cells #[.int .i64 m.next, .slice A m.nodes.length c] 24)).alloc (.cells #[.slice none 0 0] 35)).alloc (.cells #[downFn w.heap.size (w.heap.size + 1) (w.heap.size + 1 + 1)] 124))
    (.slice none 0 0) [] (by have := hT.below_len hx; simp; omega) (by simp) (RowOf.keep ENode.stays (Keep.below ((((Below.refl w.heap.size w).alloc (Nat.le_refl _) _).alloc (by simp) _).alloc (by simp; omega) _) hF) (F' := F) (fun _ h => h) HH.out) (((Blk.new _ _ _).alloc _).alloc _) (Blk.new' (by simp)) ((Blk.new' (by simp)).alloc _) (OwnI.nil _ _)).mono ?_
  rintro _ w2 ⟨rfl, v2, hk2, ho2, hown2⟩
  have HB2 := Lib.hid (((((Below.refl w.heap.size w).alloc (Nat.le_refl _) (.cells #[.int .i64 m.next, .slice A m.nodes.length c] 24)).alloc (by simp) (.cells #[.slice none 0 0] 35)).alloc (by simp; omega) (.cells #[downFn w.heap.size (w.heap.size + 1) (w.heap.size + 1 + 1)] 124)).trans (hk2.below (b := w.heap.size) (by omega) (by omega)))
  obtain ⟨A2, c2, rfl⟩ := hown2.shape
  have o0 := ho2.cell 0
  have HOWN : Hid (OwnI w2 w.heap.size (.slice A2 (belowL m x.id).length c2) (belowL m x.id)) := Lib.hid (by
    simp only [List.nil_append] at hown2
    refine ⟨hown2.1, ?_⟩
    rcases hown2.2 with h0 | ⟨g, cap, cur, h1, h2, h3⟩
    · exact .inl h0
    · exact .inr ⟨g, cap, cur, h1, by omega, h3⟩)
  simp at o0
  clear hk2 ho2 hown2
  go_wp2
  go_ret
  exact ⟨_, rfl, HOWN.out, HB2.out⟩
end Go.Proofs.Ytmafhaadcjgcbaa
end
