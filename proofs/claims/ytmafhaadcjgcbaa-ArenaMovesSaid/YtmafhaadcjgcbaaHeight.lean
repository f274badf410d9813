import Derived.Test.YtmafhaadcjgcbaaGoal
import Derived.Test.YtmafhaadcjgcbaaAUnder2
import Derived.Test.YtmafhaadcjgcbaaADown
import Derived.Test.YtmafhaadcjgcbaaATellsA
import Derived.Lib.QuietBelow
import Derived.Test.YtmafhaadcjgcbaaUnhang
import Derived.Test.YtmafhaadcjgcbaaRegY
set_option linter.unusedSimpArgs false
set_option linter.unusedVariables false
section
/- deep, depth, goal and may in a model whose nodes are told by their numbers, be it a tree or not -/
namespace Go.Proofs.Ytmafhaadcjgcbaa
open Go Go.RowKit

set_option maxRecDepth 100000 in
set_option maxHeartbeats 1000000 in
theorem deepI_any (A : Option Addr) (c : Nat) (m : AModel) (w : World) (F : Nat → Prop) (hF : ∀ b, F b → b < w.heap.size) (h : RowOf 7 ENode w F A m.nodes) (hT : ∀ i, IdAt m i) (hs : SrtB m.nodes) (hr : ∀ x ∈ m.nodes, InR x.parent) (hl : m.nodes.length ≤ 1048576) (x : ANode) (hx : x ∈ m.nodes) (d : Nat) (hd : Dep m d x.id) (hd6 : d ≤ 64) :
    Calls Try.prog 73 #[.agg #[.int .i64 m.next, .slice A m.nodes.length c], .int .i64 x.id] w fun e w' => e = .returned (.int .i64 d) ∧ Below w.heap.size w w' := by
  have HT := Lib.hid hT; have HS := Lib.hid hs; have HR := Lib.hid hr; have HX := Lib.hid hx; have HD := Lib.hid hd; have HH := Lib.hid h
  clear hT hs hr hx hd h
  go_enter Try.func73, Try.ntmps73
  go_wp2_with fail
  go_loopg [1, 5] d (fun g s1 s5 wx => ∃ (n : Nat) (cur : Int), s1 = .int .i64 cur ∧ s5 = .int .i64 n ∧ g = d - n ∧ n ≤ d ∧ Below w.heap.size w wx ∧ Blk wx w.heap.size 24 #[.int .i64 m.next, .slice A m.nodes.length c] ∧ ((cur = 0 ∧ n = d) ∨ (∃ y ∈ m.nodes, y.id = cur ∧ n < d ∧ Dep m (d - n) y.id)))
  case atStart => exact ⟨0, x.id, rfl, rfl, rfl, Nat.zero_le _, (Below.refl _ _).alloc (Nat.le_refl _) _, Blk.new _ _ _, .inr ⟨x, HX.out, rfl, HD.out.pos, HD.out⟩⟩
  case round =>
    obtain ⟨n, cur, rfl, rfl, rfl, hnd, hb, hm, hcase⟩ := hrel
    have HB := Lib.hid hb; have HM := Lib.hid hm
    have m0 := hm.cell 0; have m1 := hm.cell 1
    have hmlt := hm.lt
    have hsz := hb.size
    simp at m0 m1
    clear hm
    rcases hcase with ⟨rfl, rfl⟩ | ⟨y, hy, rfl, hlt, hD⟩
    · clear hb
      have g0 : ((0 : Int) != 0) = false := by decide
      go_wp2
      go_ret
      exact ⟨rfl, HB.out⟩
    · have hpos := id_pos HT.out hy
      have hne : (y.id != 0) = true := bne_iff_ne.2 (by omega)
      have HY := Lib.hid hy; have HDY := Lib.hid hD
      obtain ⟨j, hj, hje⟩ := List.getElem_of_mem hy
      obtain ⟨b, off, Sp, cp, Sk, ck, Sr, cr, rfl, hbF, d0, d1, d2, _⟩ := node_at (RowOf.keep ENode.stays (Keep.below hb hF) (F' := F) (fun _ h => h) HH.out) hj
      rw [hje] at d2
      have j0 : (0 : Int) ≤ j := by omega
      have j1 : (j : Int) < m.nodes.length := by omega
      have hat : atI m.nodes y.id = j := by rw [← hje]; exact atI_some HS.out.1 hj rfl
      have hin : InR y.id := by have := HS.out.2 j hj; rw [hje] at this; unfold InR; omega
      have CP := Lib.hid (fun (d : Nat) (os : Array Obj) => Calls.regrown_of (w := wr) (d := d) (os := os) (by
        have hbg := HB.out.trans ((below_regrown wr d os).mono HB.out.size)
        have := place_any (some ⟨b, off, none⟩) c m.next y.id m.nodes (Sort.grow (redrawn wr d) os) F (fun b hb' => Nat.lt_of_lt_of_le (hF b hb') hbg.size) (HH.out.keep ENode.stays (Keep.below hbg hF) (fun _ h => h)) HS.out hin hl
        rw [hat] at this; exact this))
      clear hb hje hat hin hpos hy hD d0 d1
      go_wp2_with fail
      have k0 := cell_regrown m0; have k1 := cell_regrown m1; have k2 := cell_regrown d2
      clear m0 m1 d2
      refine wp_region_quiet_below (by kernel_rfl) (by kernel_rfl) ?_
      repeat (first | go_big_quiet_step (exact CP.out _ _) | quiet_step (exact CP.out _ _))
      refine wpQuiet_nil ?_
      intro _ hw'
      obtain ⟨⟨dq, osq⟩, hw''⟩ := hw'
      subst hw''
      have HB2 := Lib.hid (HB.out.trans ((below_regrown wr dq osq).mono HB.out.size))
      have HM2 := Lib.hid (HM.out.below (below_regrown wr dq osq) hmlt)
      clear k0 k1 k2 CP
      have hn1 : (n : Int) + 1 ≤ 65 := by omega
      go_wp2
      go_roundg (d - (n + 1))
      case measure => omega
      case rel => exact ⟨n + 1, y.parent, rfl, by go_num, rfl, by omega, HB2.out, HM2.out, by
        rcases Dep.next HT.out HY.out HDY.out with ⟨h1, h2⟩ | ⟨z, hz, h1, h2, h3⟩
        · exact .inl ⟨h1, by omega⟩
        · exact .inr ⟨z, hz, h1, by omega, by rw [h1, show d - (n + 1) = d - n - 1 by omega]; exact h3⟩⟩

set_option maxRecDepth 100000 in
set_option maxHeartbeats 1000000 in
theorem depthI_any (A : Option Addr) (c : Nat) (m : AModel) (w : World) (F : Nat → Prop) (hF : ∀ b, F b → b < w.heap.size) (h : RowOf 7 ENode w F A m.nodes) (hT : ∀ i, IdAt m i) (hs : SrtB m.nodes) (hr : ∀ x ∈ m.nodes, InR x.parent) (hl : m.nodes.length ≤ 1048576) (x : ANode) (hx : x ∈ m.nodes) (d : Nat) (hd : Dep m d x.id) (hd6 : d ≤ 64) :
    Calls Try.prog 74 #[.agg #[.int .i64 m.next, .slice A m.nodes.length c], .int .i64 x.id] w fun e w' => e = .returned (.int .i64 d) ∧ Below w.heap.size w w' := by
  have HT := Lib.hid hT; have HS := Lib.hid hs; have HR := Lib.hid hr; have HX := Lib.hid hx; have HD := Lib.hid hd; have HH := Lib.hid h
  clear hT hs hr hx hd h
  go_enter Try.func74, Try.ntmps74
  go_wp2_with fail
  go_loopg [1, 5] d (fun g s1 s5 wx => ∃ (n : Nat) (cur : Int), s1 = .int .i64 cur ∧ s5 = .int .i64 n ∧ g = d - n ∧ n ≤ d ∧ Below w.heap.size w wx ∧ Blk wx w.heap.size 24 #[.int .i64 m.next, .slice A m.nodes.length c] ∧ ((cur = 0 ∧ n = d) ∨ (∃ y ∈ m.nodes, y.id = cur ∧ n < d ∧ Dep m (d - n) y.id)))
  case atStart => exact ⟨0, x.id, rfl, rfl, rfl, Nat.zero_le _, (Below.refl _ _).alloc (Nat.le_refl _) _, Blk.new _ _ _, .inr ⟨x, HX.out, rfl, HD.out.pos, HD.out⟩⟩
  case round =>
    obtain ⟨n, cur, rfl, rfl, rfl, hnd, hb, hm, hcase⟩ := hrel
    have HB := Lib.hid hb; have HM := Lib.hid hm
    have m0 := hm.cell 0; have m1 := hm.cell 1
    have hmlt := hm.lt
    have hsz := hb.size
    simp at m0 m1
    clear hm
    rcases hcase with ⟨rfl, rfl⟩ | ⟨y, hy, rfl, hlt, hD⟩
    · clear hb
      have g0 : ((0 : Int) != 0) = false := by decide
      go_wp2
      go_ret
      exact ⟨rfl, HB.out⟩
    · have hpos := id_pos HT.out hy
      have hne : (y.id != 0) = true := bne_iff_ne.2 (by omega)
      have HY := Lib.hid hy; have HDY := Lib.hid hD
      obtain ⟨j, hj, hje⟩ := List.getElem_of_mem hy
      obtain ⟨b, off, Sp, cp, Sk, ck, Sr, cr, rfl, hbF, d0, d1, d2, _⟩ := node_at (RowOf.keep ENode.stays (Keep.below hb hF) (F' := F) (fun _ h => h) HH.out) hj
      rw [hje] at d2
      have j0 : (0 : Int) ≤ j := by omega
      have j1 : (j : Int) < m.nodes.length := by omega
      have hat : atI m.nodes y.id = j := by rw [← hje]; exact atI_some HS.out.1 hj rfl
      have hin : InR y.id := by have := HS.out.2 j hj; rw [hje] at this; unfold InR; omega
      have CP := Lib.hid (fun (d : Nat) (os : Array Obj) => Calls.regrown_of (w := wr) (d := d) (os := os) (by
        have hbg := HB.out.trans ((below_regrown wr d os).mono HB.out.size)
        have := at_any (some ⟨b, off, none⟩) c m.next y.id m.nodes (Sort.grow (redrawn wr d) os) F (fun b hb' => Nat.lt_of_lt_of_le (hF b hb') hbg.size) (HH.out.keep ENode.stays (Keep.below hbg hF) (fun _ h => h)) HS.out.1 hl
        rw [hat] at this; exact this))
      clear hb hje hat hin hpos hy hD d0 d1
      go_wp2_with fail
      have k0 := cell_regrown m0; have k1 := cell_regrown m1; have k2 := cell_regrown d2
      clear m0 m1 d2
      refine wp_region_quiet_below (by kernel_rfl) (by kernel_rfl) ?_
      repeat (first | go_big_quiet_step (exact CP.out _ _) | quiet_step (exact CP.out _ _))
      refine wpQuiet_nil ?_
      intro _ hw'
      obtain ⟨⟨dq, osq⟩, hw''⟩ := hw'
      subst hw''
      have HB2 := Lib.hid (HB.out.trans ((below_regrown wr dq osq).mono HB.out.size))
      have HM2 := Lib.hid (HM.out.below (below_regrown wr dq osq) hmlt)
      clear k0 k1 k2 CP
      have hn1 : (n : Int) + 1 ≤ 65 := by omega
      go_wp2
      go_roundg (d - (n + 1))
      case measure => omega
      case rel => exact ⟨n + 1, y.parent, rfl, by go_num, rfl, by omega, HB2.out, HM2.out, by
        rcases Dep.next HT.out HY.out HDY.out with ⟨h1, h2⟩ | ⟨z, hz, h1, h2, h3⟩
        · exact .inl ⟨h1, by omega⟩
        · exact .inr ⟨z, hz, h1, by omega, by rw [h1, show d - (n + 1) = d - n - 1 by omega]; exact h3⟩⟩

set_option maxRecDepth 100000 in
set_option maxHeartbeats 2000000 in
theorem goalI_any (A : Option Addr) (c : Nat) (m : AModel) (w : World) (F : Nat → Prop) (hF : ∀ b, F b → b < w.heap.size) (h : RowOf 7 ENode w F A m.nodes) (hT : ∀ i, IdAt m i) (hFm : Fam m) (hs : SrtB m.nodes) (hrp : ∀ x ∈ m.nodes, InR x.parent) (hr : ∀ x ∈ m.nodes, ∀ k ∈ x.kids, InR k) (hl : m.nodes.length ≤ 1048576) (j : Nat) (hj : j < m.nodes.length) (x : ANode) (hje : m.nodes[j] = x) (hk4 : x.kids.length ≤ 4096) (role : ByteArray) (a : Int) (ha : InR a) (d : Nat) (hd : Dep m d x.id) (hd6 : d ≤ 64) (high : Int) (hh : 0 ≤ high ∧ high ≤ 1048576) :
    Calls Try.prog 81 #[.agg #[.int .i64 m.next, .slice A m.nodes.length c], .int .i64 x.id, .string role, .int .i64 a, .int .i64 high] w fun e w' => e = .returned (.int .i64 (kidE (spotI x.kids (inL m x role) a) d high)) ∧ Below w.heap.size w w' := by
  have HB0 := Lib.hid ((Below.refl w.heap.size w).alloc (Nat.le_refl _) (.cells #[.int .i64 m.next, .slice A m.nodes.length c] 24))
  have HM0 := Lib.hid (Blk.new w 24 #[.int .i64 m.next, .slice A m.nodes.length c])
  have hx : x ∈ m.nodes := by rw [← hje]; exact List.getElem_mem hj
  have hpos := id_pos hT hx
  have g0 : (x.id == 0) = false := beq_eq_false_iff_ne.2 (by omega)
  have HH := Lib.hid h
  have HSP := Lib.hid (spot_any A c m (w.alloc (.cells #[.int .i64 m.next, .slice A m.nodes.length c] 24)) F (fun b hb => Nat.lt_of_lt_of_le (hF b hb) HB0.out.size) (h.keep ENode.stays (Keep.below HB0.out hF) (fun _ h => h)) hFm hs hr hl j hj x hje hk4 role a ha)
  have HT := Lib.hid hT; have HS := Lib.hid hs; have HRP := Lib.hid hrp; have HX := Lib.hid hx; have HD := Lib.hid hd
  have g1 : IntKind.i64.wrap ((d : Int) + high) = d + high := by rw [IntKind.wrap_i64]; omega
  clear h hT hs hrp hr hje hx hd hpos
  rcases hsp : spotI x.kids (inL m x role) a with _ | i
  · have hsp2 := HSP.out
    rw [hsp] at hsp2
    have HSP2 := Lib.hid hsp2
    have E := Lib.hid hsp
    clear hsp hsp2 HSP
    go_enter Try.func81, Try.ntmps81
    go_wp2_with fail
    refine HSP2.out.mono ?_
    rintro _ w1 ⟨rfl, hb1⟩
    have HB1 := Lib.hid (HB0.out.trans (hb1.mono HB0.out.size))
    clear hb1
    have q1 : decide ((-1 : Int) < 0) = true := by decide
    simp only [Option.getD_none, Option.isSome_none]
    go_wp2
    go_ret
    exact ⟨by first | rfl | (rw [E.out]; rfl), HB1.out⟩
  · have hsp2 := HSP.out
    rw [hsp] at hsp2
    have HSP2 := Lib.hid hsp2
    have E := Lib.hid hsp
    have hi0 : 0 ≤ i := (spotI_le inL_sub hsp).1
    clear hsp hsp2 HSP
    go_enter Try.func81, Try.ntmps81
    go_wp2_with fail
    refine HSP2.out.mono ?_
    rintro _ w1 ⟨rfl, hb1⟩
    have HB1 := Lib.hid (HB0.out.trans (hb1.mono HB0.out.size))
    have hm1 := HM0.out.below hb1 (by simp)
    have m0 := hm1.cell 0; have m1 := hm1.cell 1
    have hmlt := hm1.lt
    simp at m0 m1
    clear hb1 hm1
    simp only [Option.getD_some, Option.isSome_some]
    have q1 : decide (i < 0) = false := decide_eq_false (by omega)
    go_wp2_with fail
    refine (deepI_any A c m w1 F (fun b hb => Nat.lt_of_lt_of_le (hF b hb) HB1.out.size) (HH.out.keep ENode.stays (Keep.below HB1.out hF) (fun _ h => h)) HT.out HS.out HRP.out hl x HX.out d HD.out hd6).mono ?_
    rintro _ w2 ⟨rfl, hb2⟩
    have HB2 := Lib.hid (HB1.out.trans (hb2.mono HB1.out.size))
    clear hb2
    by_cases hdeep : 64 < (d : Int) + high
    · have K := Lib.hid (kidE_deep (i := i) hdeep)
      have q2 : decide (64 < (d : Int) + high) = true := decide_eq_true hdeep
      clear hdeep
      go_wp2
      go_ret
      exact ⟨by first | (rw [K.out]; rfl) | (rw [E.out, K.out]; rfl), HB2.out⟩
    · have K := Lib.hid (kidE_ok (i := i) hdeep)
      have q2 : decide (64 < (d : Int) + high) = false := decide_eq_false hdeep
      clear hdeep
      go_wp2
      go_ret
      exact ⟨by first | (rw [K.out]; rfl) | (rw [E.out, K.out]; rfl), HB2.out⟩

set_option maxRecDepth 100000 in
set_option maxHeartbeats 2000000 in
theorem mayI_any (A : Option Addr) (c : Nat) (m : AModel) (w : World) (F : Nat → Prop) (hF : ∀ b, F b → b < w.heap.size) (h : RowOf 7 ENode w F A m.nodes) (hT : ∀ i, IdAt m i) (hFm : Fam m) (hs : SrtB m.nodes) (hrp : ∀ x ∈ m.nodes, InR x.parent) (hr : ∀ x ∈ m.nodes, ∀ k ∈ x.kids, InR k) (hl : m.nodes.length ≤ 1048576) (j : Nat) (hj : j < m.nodes.length) (x : ANode) (hje : m.nodes[j] = x) (hk4 : x.kids.length ≤ 4096) (role : ByteArray) (a : Int) (ha : InR a) (d : Nat) (hd : Dep m d x.id) (hd6 : d ≤ 64) (high : Int) (hh : 0 ≤ high ∧ high ≤ 1048576) :
    Calls Try.prog 84 #[.agg #[.int .i64 m.next, .slice A m.nodes.length c], .int .i64 x.id, .string role, .int .i64 a, .int .i64 high] w fun e w' => e = .returned (.int .i64 (kidE (spotI x.kids (inL m x role) a) d high)) ∧ Below w.heap.size w w' := by
  have HB0 := Lib.hid ((Below.refl w.heap.size w).alloc (Nat.le_refl _) (.cells #[.int .i64 m.next, .slice A m.nodes.length c] 24))
  have HM0 := Lib.hid (Blk.new w 24 #[.int .i64 m.next, .slice A m.nodes.length c])
  have hx : x ∈ m.nodes := by rw [← hje]; exact List.getElem_mem hj
  have hpos := id_pos hT hx
  have g0 : (x.id == 0) = false := beq_eq_false_iff_ne.2 (by omega)
  have HH := Lib.hid h
  have HSP := Lib.hid (before_any A c m (w.alloc (.cells #[.int .i64 m.next, .slice A m.nodes.length c] 24)) F (fun b hb => Nat.lt_of_lt_of_le (hF b hb) HB0.out.size) (h.keep ENode.stays (Keep.below HB0.out hF) (fun _ h => h)) hFm hs hr hl j hj x hje hk4 role a ha)
  have HT := Lib.hid hT; have HS := Lib.hid hs; have HRP := Lib.hid hrp; have HX := Lib.hid hx; have HD := Lib.hid hd
  have g1 : IntKind.i64.wrap ((d : Int) + high) = d + high := by rw [IntKind.wrap_i64]; omega
  clear h hT hs hrp hr hje hx hd hpos
  rcases hsp : spotI x.kids (inL m x role) a with _ | i
  · have hsp2 := HSP.out
    rw [hsp] at hsp2
    have HSP2 := Lib.hid hsp2
    have E := Lib.hid hsp
    clear hsp hsp2 HSP
    go_enter Try.func84, Try.ntmps84
    go_wp2_with fail
    refine HSP2.out.mono ?_
    rintro _ w1 ⟨rfl, hb1⟩
    have HB1 := Lib.hid (HB0.out.trans (hb1.mono HB0.out.size))
    clear hb1
    have q1 : decide ((-1 : Int) < 0) = true := by decide
    simp only [Option.getD_none, Option.isSome_none]
    go_wp2
    go_ret
    exact ⟨by first | rfl | (rw [E.out]; rfl), HB1.out⟩
  · have hsp2 := HSP.out
    rw [hsp] at hsp2
    have HSP2 := Lib.hid hsp2
    have E := Lib.hid hsp
    have hi0 : 0 ≤ i := (spotI_le inL_sub hsp).1
    clear hsp hsp2 HSP
    go_enter Try.func84, Try.ntmps84
    go_wp2_with fail
    refine HSP2.out.mono ?_
    rintro _ w1 ⟨rfl, hb1⟩
    have HB1 := Lib.hid (HB0.out.trans (hb1.mono HB0.out.size))
    have hm1 := HM0.out.below hb1 (by simp)
    have m0 := hm1.cell 0; have m1 := hm1.cell 1
    have hmlt := hm1.lt
    simp at m0 m1
    clear hb1 hm1
    simp only [Option.getD_some, Option.isSome_some]
    have q1 : decide (i < 0) = false := decide_eq_false (by omega)
    go_wp2_with fail
    refine (depthI_any A c m w1 F (fun b hb => Nat.lt_of_lt_of_le (hF b hb) HB1.out.size) (HH.out.keep ENode.stays (Keep.below HB1.out hF) (fun _ h => h)) HT.out HS.out HRP.out hl x HX.out d HD.out hd6).mono ?_
    rintro _ w2 ⟨rfl, hb2⟩
    have HB2 := Lib.hid (HB1.out.trans (hb2.mono HB1.out.size))
    clear hb2
    by_cases hdeep : 64 < (d : Int) + high
    · have K := Lib.hid (kidE_deep (i := i) hdeep)
      have q2 : decide (64 < (d : Int) + high) = true := decide_eq_true hdeep
      clear hdeep
      go_wp2
      go_ret
      exact ⟨by first | (rw [K.out]; rfl) | (rw [E.out, K.out]; rfl), HB2.out⟩
    · have K := Lib.hid (kidE_ok (i := i) hdeep)
      have q2 : decide (64 < (d : Int) + high) = false := decide_eq_false hdeep
      clear hdeep
      go_wp2
      go_ret
      exact ⟨by first | (rw [K.out]; rfl) | (rw [E.out, K.out]; rfl), HB2.out⟩

/-- what bars a place -/
noncomputable def goalE (m : AModel) (p : Int) (role : ByteArray) (a : Int) (d high : Int) : Int := if p = 0 then rootE role a else kidE (spotI (nodeOf m p).kids (inL m (nodeOf m p) role) a) d high
theorem goalE_root (m : AModel) (role : ByteArray) (a : Int) (d high : Int) : goalE m 0 role a d high = rootE role a := if_pos rfl
theorem goalE_kid {m : AModel} (hFm : Fam m) {x : ANode} (hx : x ∈ m.nodes) (h0 : x.id ≠ 0) (role : ByteArray) (a : Int) (d high : Int) : goalE m x.id role a d high = kidE (spotI x.kids (inL m x role) a) d high := by
  unfold goalE; rw [if_neg h0, hFm.1 x hx]
end Go.Proofs.Ytmafhaadcjgcbaa
end
section
/- how high a node is: arena.height, topiaryref02.high -/
namespace Go.Proofs.Ytmafhaadcjgcbaa
open Go Go.RowKit

noncomputable def dN (m : AModel) (id : Int) : Nat := (depR m id).toNat
theorem dN_yes {m : AModel} (h : CheckM m) {d : Nat} {id : Int} (hd : Dep m d id) : dN m id = d := by unfold dN; rw [depR_yes h hd]; simp
/-- the deepest of them -/
noncomputable def mostTo (m : AModel) (d : Nat) (l : List Int) : Nat := l.foldl (fun a k => max a (dN m k)) d
noncomputable def heightN (m : AModel) (id : Int) : Nat := mostTo m (dN m id) (belowL m id) - dN m id + 1
theorem mostTo_ge (m : AModel) : ∀ (l : List Int) (d : Nat), d ≤ mostTo m d l
  | [], d => Nat.le_refl _
  | k :: r, d => Nat.le_trans (Nat.le_max_left d (dN m k)) (mostTo_ge m r (max d (dN m k)))
theorem mostTo_snoc (m : AModel) (l : List Int) (k : Int) (d : Nat) : mostTo m d (l ++ [k]) = max (mostTo m d l) (dN m k) := by
  unfold mostTo; rw [List.foldl_append]; rfl
theorem mostTo_le (m : AModel) : ∀ (l : List Int) (d B : Nat), d ≤ B → (∀ k ∈ l, dN m k ≤ B) → mostTo m d l ≤ B
  | [], d, B, h, _ => h
  | k :: r, d, B, h, hk => mostTo_le m r (max d (dN m k)) B (Nat.max_le.2 ⟨h, hk k (List.mem_cons_self ..)⟩) fun x hx => hk x (List.mem_cons_of_mem _ hx)
theorem below_dep {m : AModel} (h : CheckM m) {x : ANode} (hx : x ∈ m.nodes) {d : Nat} (hd : Dep m d x.id) {k : Int} (hk : k ∈ belowL m x.id) : ∃ y ∈ m.nodes, y.id = k ∧ ∃ e, Dep m e k ∧ e ≤ 64 ∧ d < e ∧ dN m k = e := by
  obtain ⟨j, hj, _⟩ := h.tree.below_up x hx d hd k hk
  obtain ⟨y, hy, e⟩ := hj.node
  obtain ⟨e2, h2, h3⟩ := h.tree.dep y hy
  rw [e] at h3
  have := h3.uniq h.tree.ids hj
  exact ⟨y, hy, e, d + (j + 1), hj, by omega, by omega, dN_yes h hj⟩
theorem height_le {m : AModel} (h : CheckM m) {x : ANode} (hx : x ∈ m.nodes) : 1 ≤ heightN m x.id ∧ heightN m x.id ≤ 64 := by
  obtain ⟨d, hd6, hd⟩ := h.tree.dep x hx
  have e := dN_yes h hd
  have h1 := hd.pos
  have h2 := mostTo_le m (belowL m x.id) d 64 hd6 fun k hk => by
    obtain ⟨_, _, _, e, _, h6, _, e2⟩ := below_dep h hx hd hk
    omega
  unfold heightN
  rw [e]
  omega

set_option maxRecDepth 100000 in
set_option maxHeartbeats 4000000 in
theorem height_any (A : Option Addr) (c : Nat) (m : AModel) (w : World) (F : Nat → Prop) (hF : ∀ b, F b → b < w.heap.size) (h : RowOf 7 ENode w F A m.nodes) (hCM : CheckM m) (hrp : ∀ x ∈ m.nodes, InR x.parent) (hr : ∀ x ∈ m.nodes, ∀ k ∈ x.kids, InR k) (x : ANode) (hx : x ∈ m.nodes) :
    Calls Try.prog 98 #[.agg #[.int .i64 m.next, .slice A m.nodes.length c], .int .i64 x.id] w fun e w' => e = .returned (.int .i64 (heightN m x.id : Nat)) ∧ Below w.heap.size w w' := by
  have hl4 : m.nodes.length ≤ 4096 := hCM.1.1.2.2
  obtain ⟨d, hd6, hd⟩ := hCM.tree.dep x hx
  have HH := Lib.hid h; have HCM := Lib.hid hCM; have HRP := Lib.hid hrp; have HR := Lib.hid hr; have HX := Lib.hid hx; have HD := Lib.hid hd
  have HDN := Lib.hid (dN_yes hCM hd)
  have HBL := Lib.hid (hCM.tree.below_len hx)
  obtain ⟨L, hL⟩ : ∃ L, belowL m x.id = L := ⟨_, rfl⟩
  have HL := Lib.hid hL
  have HHE : Hid (heightN m x.id = mostTo m d L - d + 1) := Lib.hid (by unfold heightN; rw [dN_yes hCM hd, hL])
  have HBD : Hid (∀ k ∈ L, ∃ y ∈ m.nodes, y.id = k ∧ ∃ e, Dep m e k ∧ e ≤ 64 ∧ d < e ∧ dN m k = e) := Lib.hid (fun k hk => below_dep hCM hx hd (by rw [hL]; exact hk))
  have HLL : Hid (L.length ≤ 4096) := Lib.hid (by rw [← hL]; exact Nat.le_trans (hCM.tree.below_len hx) hl4)
  have hd1 := hd.pos
  obtain ⟨n, hn⟩ : ∃ n, m.nodes.length = n := ⟨_, rfl⟩
  have HN := Lib.hid hn
  rw [hn] at hl4 ⊢
  clear h hCM hrp hr hx hd hL hn
  go_enter Try.func98, Try.ntmps98
  obtain ⟨u1, hu⟩ : ∃ u : World, w.alloc (.cells #[.int .i64 m.next, .slice A n c] 24) = u := ⟨_, rfl⟩
  have HBU : Below w.heap.size w u1 := by rw [← hu]; exact (Below.refl _ _).alloc (Nat.le_refl _) _
  have HBM : Hid (Blk u1 w.heap.size 24 #[.int .i64 m.next, .slice A n c]) := Lib.hid (by rw [← hu]; exact Blk.new _ _ _)
  have HUE := Lib.hid hu
  clear hu
  have HB_w : Hid (Below w.heap.size w u1) := Lib.hid HBU
  clear HBU
  have HDE := Lib.hid (deepI_any A c m u1 F (fun b hb => Nat.lt_of_lt_of_le (hF b hb) HB_w.out.size) (HH.out.keep ENode.stays (Keep.below HB_w.out hF) (fun _ h => h)) HCM.out.1.2 HCM.out.1.srtB HRP.out (by rw [HN.out]; omega) x HX.out d HD.out hd6)
  rw [HN.out] at HDE
  go_wp2_with fail
  (try rw [HUE.out])
  refine HDE.out.mono ?_
  rintro _ w1 ⟨rfl, hb⟩
  replace HB_w : Hid (Below w.heap.size w w1) := Lib.hid (HB_w.out.trans (hb.mono HB_w.out.size))
  replace HBM := Lib.hid (HBM.out.below hb HBM.out.lt)
  have HBMc0 := HBM.out.cell 0
  have HBMc1 := HBM.out.cell 1
  have HBMlt := HBM.out.lt
  simp at HBMc0 HBMc1
  clear hb HDE HUE
  have HUN := Lib.hid (under_any A c m w1 F (fun b hb => Nat.lt_of_lt_of_le (hF b hb) HB_w.out.size) (HH.out.keep ENode.stays (Keep.below HB_w.out hF) (fun _ h => h)) HCM.out.tree HCM.out.1.srtB HR.out (by rw [HN.out]; omega) x HX.out)
  rw [HL.out, HN.out] at HUN
  go_wp2_with fail
  refine HUN.out.mono ?_
  rintro _ w2 ⟨v, rfl, hown, hb⟩
  replace HB_w : Hid (Below w.heap.size w w2) := Lib.hid (HB_w.out.trans (hb.mono HB_w.out.size))
  replace HBM := Lib.hid (HBM.out.below hb HBM.out.lt)
  obtain ⟨Av, cv, rfl⟩ := hown.shape
  have HOW := Lib.hid hown
  have HOR : Hid (RowOf 1 EInt w2 (fun b => b < w2.heap.size) Av L) := Lib.hid (by
    obtain ⟨A', c', e, _, _, h3⟩ := hown.isRow (F := fun b => b < w2.heap.size) (fun b _ h => h)
    injection e with e1; subst e1; exact h3)
  clear hb hown HUN HBMc0 HBMc1 HBMlt
  obtain ⟨t, ht⟩ : ∃ t, L.length = t := ⟨_, rfl⟩
  have HT := Lib.hid ht
  have HLT : Hid (t ≤ 4096) := Lib.hid (by rw [← ht]; exact HLL.out)
  rw [ht]
  clear ht
  go_upto_region 4 with fail
  go_loopg [6, 17] t (fun g s6 s17 wx => ∃ (k p : Nat), s17 = .int .i64 k ∧ s6 = .int .i64 p ∧ g = t - k ∧ k ≤ t ∧ p = mostTo m d (L.take k) ∧ p ≤ 64 ∧ Below w2.heap.size w2 wx)
  case atStart => exact ⟨0, d, rfl, rfl, rfl, Nat.zero_le _, rfl, hd6, Below.refl _ _⟩
  case round =>
    obtain ⟨k, p, rfl, rfl, rfl, hk, hp, hp6, hb⟩ := hrel
    have k0 : (0 : Int) ≤ k := by omega
    have p0 : (0 : Int) ≤ p := by omega
    have HP := Lib.hid hp
    replace HB_w : Hid (Below w.heap.size w wr) := Lib.hid (HB_w.out.trans (hb.mono HB_w.out.size))
    have HB_w2 : Hid (Below w2.heap.size w2 wr) := Lib.hid hb
    replace HBM := Lib.hid (HBM.out.below hb HBM.out.lt)
    clear hb hp
    have ht4 := HLT.out
    by_cases hlt : k < t
    · have hlt' : (k : Int) < t := by omega
      have HKL : Hid (k < L.length) := Lib.hid (by rw [HT.out]; exact hlt)
      obtain ⟨b, off, rfl, hbF, d0⟩ := int_at HOR.out HKL.out
      have d0 := (HB_w2.out.cell (p := ⟨b, off + k, none⟩) hbF).trans d0
      obtain ⟨y, hy, hyk, e, he, he6, hde, hdn⟩ := HBD.out _ (List.getElem_mem HKL.out)
      have HY := Lib.hid hy; have HE := Lib.hid he; have HDK := Lib.hid hdn
      obtain ⟨kk, hkk⟩ : ∃ z, L[k]'HKL.out = z := ⟨_, rfl⟩
      have HKK := Lib.hid hkk
      rw [hkk] at d0 hyk HE HDK
      subst hyk
      clear hy he hdn hkk
      have HDE := Lib.hid (deepI_any A c m wr F (fun b hb => Nat.lt_of_lt_of_le (hF b hb) HB_w.out.size) (HH.out.keep ENode.stays (Keep.below HB_w.out hF) (fun _ h => h)) HCM.out.1.2 HCM.out.1.srtB HRP.out (by rw [HN.out]; omega) y HY.out e HE.out he6)
      rw [HN.out] at HDE
      have HBMc0 := HBM.out.cell 0
      have HBMc1 := HBM.out.cell 1
      have HBMlt := HBM.out.lt
      simp at HBMc0 HBMc1
      go_wp2_with fail
      refine HDE.out.mono ?_
      rintro _ w3 ⟨rfl, hb⟩
      replace HB_w : Hid (Below w.heap.size w w3) := Lib.hid (HB_w.out.trans (hb.mono HB_w.out.size))
      replace HB_w2 : Hid (Below w2.heap.size w2 w3) := Lib.hid (HB_w2.out.trans (hb.mono HB_w2.out.size))
      replace HBM := Lib.hid (HBM.out.below hb HBM.out.lt)
      clear hb HDE HBMc0 HBMc1 HBMlt d0
      have HMX : Hid (max p e = mostTo m d (L.take (k + 1))) := Lib.hid (by
        rw [List.take_succ_eq_append_getElem HKL.out, mostTo_snoc, HKK.out, HDK.out, ← HP.out])
      by_cases hpe : p < e
      · have q1 : decide ((p : Int) < (e : Int)) = true := decide_eq_true (by omega)
        have q2 : (if (p : Int) < (e : Int) then (e : Int) else (p : Int)) = (e : Int) := if_pos (by omega)
        have q3 : max (p : Int) (e : Int) = (e : Int) := by omega
        go_wp2_with fail
        go_roundg (t - (k + 1))
        case measure => omega
        case rel => exact ⟨k + 1, e, by go_num, by first | rfl | go_num, rfl, by omega, by rw [← HMX.out]; omega, he6, HB_w2.out⟩
      · have q1 : decide ((p : Int) < (e : Int)) = false := decide_eq_false (by omega)
        have q2 : (if (p : Int) < (e : Int) then (e : Int) else (p : Int)) = (p : Int) := if_neg (by omega)
        have q3 : max (p : Int) (e : Int) = (p : Int) := by omega
        go_wp2_with fail
        go_roundg (t - (k + 1))
        case measure => omega
        case rel => exact ⟨k + 1, p, by go_num, by first | rfl | go_num, rfl, by omega, by rw [← HMX.out]; omega, hp6, HB_w2.out⟩
    · have hlt' : ¬ (k : Int) < t := by omega
      have hpd : d ≤ p := by rw [HP.out]; exact mostTo_ge m _ _
      have HEQ : Hid ((p : Int) - d + 1 = ((heightN m x.id : Nat) : Int)) := Lib.hid (by
        have h := HP.out
        rw [List.take_of_length_le (by rw [HT.out]; omega)] at h
        rw [HHE.out, ← h]; omega)
      go_wp2_with fail
      go_ret
      exact ⟨by rw [← HEQ.out]; first | rfl | (congr 2; go_num), HB_w.out⟩

set_option maxRecDepth 100000 in
set_option maxHeartbeats 4000000 in
theorem high_any (A : Option Addr) (c : Nat) (m : AModel) (w : World) (F : Nat → Prop) (hF : ∀ b, F b → b < w.heap.size) (h : RowOf 7 ENode w F A m.nodes) (hCM : CheckM m) (hrp : ∀ x ∈ m.nodes, InR x.parent) (hr : ∀ x ∈ m.nodes, ∀ k ∈ x.kids, InR k) (hk4 : ∀ x ∈ m.nodes, x.kids.length ≤ 4096) (x : ANode) (hx : x ∈ m.nodes) :
    Calls Try.prog 101 #[.agg #[.int .i64 m.next, .slice A m.nodes.length c], .int .i64 x.id] w fun e w' => e = .returned (.int .i64 (heightN m x.id : Nat)) ∧ Below w.heap.size w w' := by
  have hl4 : m.nodes.length ≤ 4096 := hCM.1.1.2.2
  obtain ⟨d, hd6, hd⟩ := hCM.tree.dep x hx
  have HH := Lib.hid h; have HCM := Lib.hid hCM; have HRP := Lib.hid hrp; have HR := Lib.hid hr; have HX := Lib.hid hx; have HD := Lib.hid hd
  have HK4 := Lib.hid hk4
  have HDN := Lib.hid (dN_yes hCM hd)
  have HBL := Lib.hid (hCM.tree.below_len hx)
  obtain ⟨L, hL⟩ : ∃ L, belowL m x.id = L := ⟨_, rfl⟩
  have HL := Lib.hid hL
  have HHE : Hid (heightN m x.id = mostTo m d L - d + 1) := Lib.hid (by unfold heightN; rw [dN_yes hCM hd, hL])
  have HBD : Hid (∀ k ∈ L, ∃ y ∈ m.nodes, y.id = k ∧ ∃ e, Dep m e k ∧ e ≤ 64 ∧ d < e ∧ dN m k = e) := Lib.hid (fun k hk => below_dep hCM hx hd (by rw [hL]; exact hk))
  have HLL : Hid (L.length ≤ 4096) := Lib.hid (by rw [← hL]; exact Nat.le_trans (hCM.tree.below_len hx) hl4)
  have hd1 := hd.pos
  obtain ⟨n, hn⟩ : ∃ n, m.nodes.length = n := ⟨_, rfl⟩
  have HN := Lib.hid hn
  rw [hn] at hl4 ⊢
  clear h hCM hrp hr hx hd hL hn hk4
  go_enter Try.func101, Try.ntmps101
  obtain ⟨u1, hu⟩ : ∃ u : World, w.alloc (.cells #[.int .i64 m.next, .slice A n c] 24) = u := ⟨_, rfl⟩
  have HBU : Below w.heap.size w u1 := by rw [← hu]; exact (Below.refl _ _).alloc (Nat.le_refl _) _
  have HBM : Hid (Blk u1 w.heap.size 24 #[.int .i64 m.next, .slice A n c]) := Lib.hid (by rw [← hu]; exact Blk.new _ _ _)
  have HUE := Lib.hid hu
  clear hu
  have HB_w : Hid (Below w.heap.size w u1) := Lib.hid HBU
  clear HBU
  have HUN := Lib.hid (down_any A c m u1 F (fun b hb => Nat.lt_of_lt_of_le (hF b hb) HB_w.out.size) (HH.out.keep ENode.stays (Keep.below HB_w.out hF) (fun _ h => h)) HCM.out.tree HCM.out.1.srtB HK4.out (by rw [HN.out]; omega) x HX.out)
  rw [HL.out, HN.out] at HUN
  go_wp2_with fail
  (try rw [HUE.out])
  refine HUN.out.mono ?_
  rintro _ w2 ⟨v, rfl, hown, hb⟩
  replace HB_w : Hid (Below w.heap.size w w2) := Lib.hid (HB_w.out.trans (hb.mono HB_w.out.size))
  replace HBM := Lib.hid (HBM.out.below hb HBM.out.lt)
  obtain ⟨Av, cv, rfl⟩ := hown.shape
  have HOW := Lib.hid hown
  have HOR : Hid (RowOf 1 EInt w2 (fun b => b < w2.heap.size) Av L) := Lib.hid (by
    obtain ⟨A', c', e, _, _, h3⟩ := hown.isRow (F := fun b => b < w2.heap.size) (fun b _ h => h)
    injection e with e1; subst e1; exact h3)
  clear hb hown HUN HUE
  obtain ⟨t, ht⟩ : ∃ t, L.length = t := ⟨_, rfl⟩
  have HT := Lib.hid ht
  have HLT : Hid (t ≤ 4096) := Lib.hid (by rw [← ht]; exact HLL.out)
  rw [ht]
  clear ht
  go_upto_region 4 with fail
  go_loopg [5, 7] t (fun g s5 s7 wx => ∃ (k p : Nat), s7 = .int .i64 k ∧ s5 = .int .i64 p ∧ g = t - k ∧ k ≤ t ∧ p + d = mostTo m d (L.take k) + 1 ∧ p ≤ 64 ∧ Below w2.heap.size w2 wx)
  case atStart => exact ⟨0, 1, rfl, rfl, rfl, Nat.zero_le _, by show 1 + d = d + 1; omega, by omega, Below.refl _ _⟩
  case round =>
    obtain ⟨k, p, rfl, rfl, rfl, hk, hp, hp6, hb⟩ := hrel
    have k0 : (0 : Int) ≤ k := by omega
    have p0 : (0 : Int) ≤ p := by omega
    have HP := Lib.hid hp
    replace HB_w : Hid (Below w.heap.size w wr) := Lib.hid (HB_w.out.trans (hb.mono HB_w.out.size))
    have HB_w2 : Hid (Below w2.heap.size w2 wr) := Lib.hid hb
    replace HBM := Lib.hid (HBM.out.below hb HBM.out.lt)
    clear hb hp
    have ht4 := HLT.out
    by_cases hlt : k < t
    · have hlt' : (k : Int) < t := by omega
      have HKL : Hid (k < L.length) := Lib.hid (by rw [HT.out]; exact hlt)
      obtain ⟨b, off, rfl, hbF, d0⟩ := int_at HOR.out HKL.out
      have d0 := (HB_w2.out.cell (p := ⟨b, off + k, none⟩) hbF).trans d0
      obtain ⟨y, hy, hyk, e, he, he6, hde, hdn⟩ := HBD.out _ (List.getElem_mem HKL.out)
      have HY := Lib.hid hy; have HE := Lib.hid he; have HDK := Lib.hid hdn
      obtain ⟨kk, hkk⟩ : ∃ z, L[k]'HKL.out = z := ⟨_, rfl⟩
      have HKK := Lib.hid hkk
      rw [hkk] at d0 hyk HE HDK
      subst hyk
      clear hy he hdn hkk
      have HBMc0 := HBM.out.cell 0
      have HBMc1 := HBM.out.cell 1
      have HBMlt := HBM.out.lt
      simp at HBMc0 HBMc1
      have HC1 : Hid (∀ u', Below w.heap.size w u' → Calls Try.prog 74 #[.agg #[.int .i64 m.next, .slice A n c], .int .i64 y.id] u' fun z w' => z = .returned (.int .i64 e) ∧ Below u'.heap.size u' w') := Lib.hid (fun u' hbg => by
        have := depthI_any A c m u' F (fun b hb => Nat.lt_of_lt_of_le (hF b hb) hbg.size) (HH.out.keep ENode.stays (Keep.below hbg hF) (fun _ h => h)) HCM.out.1.2 HCM.out.1.srtB HRP.out (by rw [HN.out]; omega) y HY.out e HE.out he6
        rw [HN.out] at this
        exact this)
      have HC2 : Hid (∀ u', Below w.heap.size w u' → Calls Try.prog 74 #[.agg #[.int .i64 m.next, .slice A n c], .int .i64 x.id] u' fun z w' => z = .returned (.int .i64 d) ∧ Below u'.heap.size u' w') := Lib.hid (fun u' hbg => by
        have := depthI_any A c m u' F (fun b hb => Nat.lt_of_lt_of_le (hF b hb) hbg.size) (HH.out.keep ENode.stays (Keep.below hbg hF) (fun _ h => h)) HCM.out.1.2 HCM.out.1.srtB HRP.out (by rw [HN.out]; omega) x HX.out d HD.out hd6
        rw [HN.out] at this
        exact this)
      obtain ⟨yi, hyi⟩ : ∃ z, y.id = z := ⟨_, rfl⟩
      have HYI := Lib.hid hyi
      rw [hyi] at HC1 d0
      clear hyi
      obtain ⟨q, hq⟩ : ∃ q : Nat, e - d = q := ⟨_, rfl⟩
      have g1 : IntKind.i64.wrap ((e : Int) - d) = q := by rw [IntKind.wrap_i64]; omega
      have g2 : IntKind.i64.wrap ((q : Int) + 1) = q + 1 := by rw [IntKind.wrap_i64]; omega
      have hbl := (HB_w2.out.size)
      have HSF : Hid (∀ u', Below wr.heap.size wr u' → u'.cell? ⟨w.heap.size, 0, none⟩ = some (.int .i64 m.next) ∧ u'.cell? ⟨w.heap.size, 1, none⟩ = some (.slice A n c) ∧ u'.cell? ⟨b, off + k, none⟩ = some (.int .i64 yi)) := Lib.hid (fun u' hu => ⟨(hu.cell (p := ⟨w.heap.size, 0, none⟩) HBMlt).trans HBMc0, (hu.cell (p := ⟨w.heap.size, 1, none⟩) HBMlt).trans HBMc1, (hu.cell (p := ⟨b, off + k, none⟩) (Nat.lt_of_lt_of_le hbF hbl)).trans d0⟩)
      go_upto_region 6 with fail
      obtain ⟨u, hu⟩ : ∃ u : World, wr.drew = u := ⟨_, rfl⟩
      have HU : Hid (Below wr.heap.size wr u) := Lib.hid (by rw [← hu]; exact (Below.refl _ _).drew)
      have HBU := Lib.hid (HB_w.out.trans (HU.out.mono HB_w.out.size))
      clear HBMc0 HBMc1 HBMlt d0 hbl
      refine wp_region_Y (S := (fun w' : World => w'.cell? ⟨w.heap.size, 0, none⟩ = some (.int .i64 m.next) ∧ w'.cell? ⟨w.heap.size, 1, none⟩ = some (.slice A n c) ∧ w'.cell? ⟨b, off + k, none⟩ = some (.int .i64 yi))) 13 (by kernel_rfl) (by rw [hu]; exact HSF.out _ HU.out) (fun hHeld => ?_)
      rw [hu] at hHeld ⊢
      clear hu
      refine wpAnyY_take (i := 0) (v := ?_) rfl (by kernel_rfl) (by kernel_rfl) (by kernel_rfl) (by kernel_rfl) (fun _ _ _ h => h) (Or.inl ⟨by rfl, ?_⟩) (by assumption) ?_
      rotate_left 1
      · (intro w' hSw; obtain ⟨s0, s1, s2⟩ := hSw; go_simp); try with_reducible rfl
      try simp only [Act.put, List.setIfInBounds_toArray, List.set_cons_zero, List.set_cons_succ, Nat.zero_add]
      refine wpAnyY_take (i := 1) (v := ?_) rfl (by kernel_rfl) (by kernel_rfl) (by kernel_rfl) (by kernel_rfl) (fun _ _ _ h => h) (Or.inl ⟨by rfl, ?_⟩) (by assumption) ?_
      rotate_left 1
      · (intro w' hSw; obtain ⟨s0, s1, s2⟩ := hSw; go_simp); try with_reducible rfl
      try simp only [Act.put, List.setIfInBounds_toArray, List.set_cons_zero, List.set_cons_succ, Nat.zero_add]
      refine wpAnyY_take (i := 2) (v := ?_) rfl (by kernel_rfl) (by kernel_rfl) (by kernel_rfl) (by kernel_rfl) (fun _ _ _ h => h) (Or.inl ⟨by rfl, ?_⟩) (by assumption) ?_
      rotate_left 1
      · (intro w' hSw; obtain ⟨s0, s1, s2⟩ := hSw; go_simp); try with_reducible rfl
      try simp only [Act.put, List.setIfInBounds_toArray, List.set_cons_zero, List.set_cons_succ, Nat.zero_add]
      refine wpAnyY_take (i := 3) (v := ?_) rfl (by kernel_rfl) (by kernel_rfl) (by kernel_rfl) (by kernel_rfl) (fun _ _ _ h => h) (Or.inl ⟨by rfl, ?_⟩) (by assumption) ?_
      rotate_left 1
      · (intro w' hSw; obtain ⟨s0, s1, s2⟩ := hSw; go_simp); try with_reducible rfl
      try simp only [Act.put, List.setIfInBounds_toArray, List.set_cons_zero, List.set_cons_succ, Nat.zero_add]
      refine wpAnyY_take (i := 4) (v := ?_) rfl (by kernel_rfl) (by kernel_rfl) (by kernel_rfl) (by kernel_rfl) (fun _ _ _ h => h) (Or.inl ⟨by rfl, ?_⟩) (by assumption) ?_
      rotate_left 1
      · (intro w' hSw; obtain ⟨s0, s1, s2⟩ := hSw; go_simp); try with_reducible rfl
      try simp only [Act.put, List.setIfInBounds_toArray, List.set_cons_zero, List.set_cons_succ, Nat.zero_add]
      refine wpAnyY_take (i := 5) (v := ?_) rfl (by kernel_rfl) (by kernel_rfl) (by kernel_rfl) (by kernel_rfl) (fun _ _ _ h => h) (Or.inl ⟨by rfl, ?_⟩) (by assumption) ?_
      rotate_left 1
      · (intro w' hSw; obtain ⟨s0, s1, s2⟩ := hSw; go_simp); try with_reducible rfl
      try simp only [Act.put, List.setIfInBounds_toArray, List.set_cons_zero, List.set_cons_succ, Nat.zero_add]
      refine wpAnyY_take (i := 7) (v := ?_) rfl (by kernel_rfl) (by kernel_rfl) (by kernel_rfl) (by kernel_rfl) (fun _ _ _ h => h) (Or.inl ⟨by rfl, ?_⟩) (by assumption) ?_
      rotate_left 1
      · (intro w' hSw; obtain ⟨s0, s1, s2⟩ := hSw; go_simp); try with_reducible rfl
      try simp only [Act.put, List.setIfInBounds_toArray, List.set_cons_zero, List.set_cons_succ, Nat.zero_add]
      refine wpAnyY_take (i := 8) (v := ?_) rfl (by kernel_rfl) (by kernel_rfl) (by kernel_rfl) (by kernel_rfl) (fun _ _ _ h => h) (Or.inl ⟨by rfl, ?_⟩) (by assumption) ?_
      rotate_left 1
      · (intro w' hSw; obtain ⟨s0, s1, s2⟩ := hSw; go_simp); try with_reducible rfl
      try simp only [Act.put, List.setIfInBounds_toArray, List.set_cons_zero, List.set_cons_succ, Nat.zero_add]
      refine wpAnyY_one (i := 6) rfl (by kernel_rfl) (fun K hK => ?_)
      go_simp
      refine (HC1.out _ HBU.out).mono ?_
      rintro _ w6 ⟨rfl, hb⟩
      have HU6 := Lib.hid (HU.out.trans (hb.mono HU.out.size))
      have HBU6 := Lib.hid (HBU.out.trans (hb.mono HBU.out.size))
      clear hb
      refine hK.out _ _ (fun _ => HSF.out _ HU6.out) ?_
      have hHeld6 := HSF.out _ HU6.out
      clear hK K
      try simp only [Act.put, List.setIfInBounds_toArray, List.set_cons_zero, List.set_cons_succ, Nat.zero_add]
      refine wpAnyY_one (i := 9) rfl (by kernel_rfl) (fun K hK => ?_)
      go_simp
      refine (HC2.out _ HBU6.out).mono ?_
      rintro _ w9 ⟨rfl, hb⟩
      have HU9 := Lib.hid (HU6.out.trans (hb.mono HU6.out.size))
      have HBU9 := Lib.hid (HBU6.out.trans (hb.mono HBU6.out.size))
      clear hb
      refine hK.out _ _ (fun _ => HSF.out _ HU9.out) ?_
      have hHeld9 := HSF.out _ HU9.out
      clear hK K
      try simp only [Act.put, List.setIfInBounds_toArray, List.set_cons_zero, List.set_cons_succ, Nat.zero_add]
      refine wpAnyY_take (i := 10) (v := ?_) rfl (by kernel_rfl) (by kernel_rfl) (by kernel_rfl) (by kernel_rfl) (fun _ _ _ h => h) (Or.inl ⟨by rfl, ?_⟩) (by assumption) ?_
      rotate_left 1
      · (intro w' hSw; obtain ⟨s0, s1, s2⟩ := hSw; go_simp); try with_reducible rfl
      try simp only [Act.put, List.setIfInBounds_toArray, List.set_cons_zero, List.set_cons_succ, Nat.zero_add]
      refine wpAnyY_take (i := 11) (v := ?_) rfl (by kernel_rfl) (by kernel_rfl) (by kernel_rfl) (by kernel_rfl) (fun _ _ _ h => h) (Or.inl ⟨by rfl, ?_⟩) (by assumption) ?_
      rotate_left 1
      · (intro w' hSw; obtain ⟨s0, s1, s2⟩ := hSw; go_simp); try with_reducible rfl
      try simp only [Act.put, List.setIfInBounds_toArray, List.set_cons_zero, List.set_cons_succ, Nat.zero_add]
      refine wpAnyY_take (i := 12) (v := ?_) rfl (by kernel_rfl) (by kernel_rfl) (by kernel_rfl) (by kernel_rfl) (fun _ _ _ h => h) (Or.inl ⟨by rfl, ?_⟩) (by assumption) ?_
      rotate_left 1
      · (intro w' hSw; obtain ⟨s0, s1, s2⟩ := hSw; go_simp); try with_reducible rfl
      try simp only [Act.put, List.setIfInBounds_toArray, List.set_cons_zero, List.set_cons_succ, Nat.zero_add]
      refine wpAnyY_one0 (i := 13) rfl (by kernel_rfl) (by kernel_rfl) (fun K hK => ?_)
      go_simp
      refine hK.out _ _ ?_
      clear hK K
      try simp only [Act.put, List.setIfInBounds_toArray, List.set_cons_zero, List.set_cons_succ, Nat.zero_add]
      refine wpAnyY_done (by kernel_rfl) ?_ _
      have HB29 := Lib.hid (HB_w2.out.trans (HU9.out.mono HB_w2.out.size))
      have HMX : Hid (max p (q + 1) + d = mostTo m d (L.take (k + 1)) + 1) := Lib.hid (by
        rw [List.take_succ_eq_append_getElem HKL.out, mostTo_snoc, HKK.out, HDK.out]
        have h := HP.out
        omega)
      by_cases hpe : p < q + 1
      · have q1 : decide ((p : Int) < (q : Int) + 1) = true := decide_eq_true (by omega)
        have q2 : (if (p : Int) < (q : Int) + 1 then (q : Int) + 1 else (p : Int)) = (q : Int) + 1 := if_pos (by omega)
        have q3 : max (p : Int) ((q : Int) + 1) = (q : Int) + 1 := by omega
        go_wp2_with fail
        go_roundg (t - (k + 1))
        case measure => omega
        case rel => exact ⟨k + 1, q + 1, by go_num, by first | rfl | go_num | (simp only [q2, q3]; rfl), rfl, by omega, by rw [← HMX.out]; omega, by omega, HB29.out⟩
      · have q1 : decide ((p : Int) < (q : Int) + 1) = false := decide_eq_false (by omega)
        have q2 : (if (p : Int) < (q : Int) + 1 then (q : Int) + 1 else (p : Int)) = (p : Int) := if_neg (by omega)
        have q3 : max (p : Int) ((q : Int) + 1) = (p : Int) := by omega
        go_wp2_with fail
        go_roundg (t - (k + 1))
        case measure => omega
        case rel => exact ⟨k + 1, p, by go_num, by first | rfl | go_num | (simp only [q2, q3]; rfl), rfl, by omega, by rw [← HMX.out]; omega, hp6, HB29.out⟩
    · have hlt' : ¬ (k : Int) < t := by omega
      have HEQ : Hid (p = heightN m x.id) := Lib.hid (by
        have h := HP.out
        rw [List.take_of_length_le (by rw [HT.out]; omega)] at h
        have h2 := mostTo_ge m L d
        rw [HHE.out]; omega)
      go_wp2_with fail
      go_ret
      exact ⟨by rw [← HEQ.out]; rfl, HB_w.out⟩
end Go.Proofs.Ytmafhaadcjgcbaa
end
