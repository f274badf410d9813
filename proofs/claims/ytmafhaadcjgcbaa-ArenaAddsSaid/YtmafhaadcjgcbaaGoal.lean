import Derived.Test.YtmafhaadcjgcbaaSpot
import Derived.Test.YtmafhaadcjgcbaaADeep
import Derived.Test.YtmafhaadcjgcbaaAAlone
import Derived.Test.YtmafhaadcjgcbaaAOrder
namespace Go.Proofs.Ytmafhaadcjgcbaa
open Go Go.RowKit

/-- what bars a place among the roots -/
def rootE (role : ByteArray) (a : Int) : Int := if role.size = 0 ∧ a = 0 then 0 else 22
/-- what bars a place below a node that stands so deep, for a node so high -/
def kidE (sp : Option Int) (d high : Int) : Int := if sp.isSome = true then (if 64 < d + high then 23 else 0) else 22
theorem rootE_yes {role : ByteArray} {a : Int} (h : role.size = 0) (h2 : a = 0) : rootE role a = 0 := if_pos ⟨h, h2⟩
theorem rootE_no {role : ByteArray} {a : Int} (h : ¬ (role.size = 0 ∧ a = 0)) : rootE role a = 22 := if_neg h
theorem kidE_none {d high : Int} : kidE none d high = 22 := rfl
theorem kidE_deep {i d high : Int} (h : 64 < d + high) : kidE (some i) d high = 23 := by unfold kidE; simp [h]
theorem kidE_ok {i d high : Int} (h : ¬ 64 < d + high) : kidE (some i) d high = 0 := by unfold kidE; simp [h]

set_option maxRecDepth 100000 in
set_option maxHeartbeats 1000000 in
theorem goalRoot_any (nx : Int) (A : Option Addr) (n c : Nat) (w : World) (role : ByteArray) (a high : Int) :
    Calls Try.prog 81 #[.agg #[.int .i64 nx, .slice A n c], .int .i64 0, .string role, .int .i64 a, .int .i64 high] w fun e w' => e = .returned (.int .i64 (rootE role a)) ∧ Below w.heap.size w w' := by
  have HB := Lib.hid ((Below.refl w.heap.size w).alloc (Nat.le_refl _) (.cells #[.int .i64 nx, .slice A n c] 24))
  have g0 : ((0 : Int) == 0) = true := by decide
  cases hr0 : role.toList.isEmpty
  · have E := Lib.hid (rootE_no (role := role) (a := a) (fun h => nonempty_size hr0 h.1))
    have hr1 : (!role.toList.isEmpty) = true := by rw [hr0]; rfl
    clear hr0
    go_enter Try.func81, Try.ntmps81
    go_wp2
    go_ret
    exact ⟨by rw [E.out]; rfl, HB.out⟩
  · have hr1 : (!role.toList.isEmpty) = false := by rw [hr0]; rfl
    cases ha0 : (a != 0)
    · have E := Lib.hid (rootE_yes (role := role) (a := a) (empty_size hr0) (by simpa using ha0))
      clear hr0
      go_enter Try.func81, Try.ntmps81
      go_wp2
      go_ret
      exact ⟨by rw [E.out]; rfl, HB.out⟩
    · have E := Lib.hid (rootE_no (role := role) (a := a) (fun h => by simp [h.2] at ha0))
      clear hr0
      go_enter Try.func81, Try.ntmps81
      go_wp2
      go_ret
      exact ⟨by rw [E.out]; rfl, HB.out⟩

set_option maxRecDepth 100000 in
set_option maxHeartbeats 1000000 in
theorem mayRoot_any (nx : Int) (A : Option Addr) (n c : Nat) (w : World) (role : ByteArray) (a high : Int) :
    Calls Try.prog 84 #[.agg #[.int .i64 nx, .slice A n c], .int .i64 0, .string role, .int .i64 a, .int .i64 high] w fun e w' => e = .returned (.int .i64 (rootE role a)) ∧ Below w.heap.size w w' := by
  have HB := Lib.hid ((Below.refl w.heap.size w).alloc (Nat.le_refl _) (.cells #[.int .i64 nx, .slice A n c] 24))
  have g0 : ((0 : Int) == 0) = true := by decide
  cases hr0 : role.toList.isEmpty
  · have E := Lib.hid (rootE_no (role := role) (a := a) (fun h => nonempty_size hr0 h.1))
    have hr1 : (!role.toList.isEmpty) = true := by rw [hr0]; rfl
    clear hr0
    go_enter Try.func84, Try.ntmps84
    go_wp2
    go_ret
    exact ⟨by rw [E.out]; rfl, HB.out⟩
  · have hr1 : (!role.toList.isEmpty) = false := by rw [hr0]; rfl
    cases ha0 : (a != 0)
    · have E := Lib.hid (rootE_yes (role := role) (a := a) (empty_size hr0) (by simpa using ha0))
      clear hr0
      go_enter Try.func84, Try.ntmps84
      go_wp2
      go_ret
      exact ⟨by rw [E.out]; rfl, HB.out⟩
    · have E := Lib.hid (rootE_no (role := role) (a := a) (fun h => by simp [h.2] at ha0))
      clear hr0
      go_enter Try.func84, Try.ntmps84
      go_wp2
      go_ret
      exact ⟨by rw [E.out]; rfl, HB.out⟩

set_option maxRecDepth 100000 in
set_option maxHeartbeats 2000000 in
theorem goalKid_any (A : Option Addr) (c : Nat) (m : AModel) (w : World) (F : Nat → Prop) (hF : ∀ b, F b → b < w.heap.size) (h : RowOf 7 ENode w F A m.nodes) (hT : Tree m) (hs : SrtB m.nodes) (hrp : ∀ x ∈ m.nodes, InR x.parent) (hr : ∀ x ∈ m.nodes, ∀ k ∈ x.kids, InR k) (hl : m.nodes.length ≤ 1048576) (j : Nat) (hj : j < m.nodes.length) (x : ANode) (hje : m.nodes[j] = x) (hk4 : x.kids.length ≤ 4096) (role : ByteArray) (a : Int) (ha : InR a) (d : Nat) (hd : Dep m d x.id) (hd6 : d ≤ 64) (high : Int) (hh : 0 ≤ high ∧ high ≤ 1048576) :
    Calls Try.prog 81 #[.agg #[.int .i64 m.next, .slice A m.nodes.length c], .int .i64 x.id, .string role, .int .i64 a, .int .i64 high] w fun e w' => e = .returned (.int .i64 (kidE (spotI x.kids (inL m x role) a) d high)) ∧ Below w.heap.size w w' := by
  have HB0 := Lib.hid ((Below.refl w.heap.size w).alloc (Nat.le_refl _) (.cells #[.int .i64 m.next, .slice A m.nodes.length c] 24))
  have HM0 := Lib.hid (Blk.new w 24 #[.int .i64 m.next, .slice A m.nodes.length c])
  have hx : x ∈ m.nodes := by rw [← hje]; exact List.getElem_mem hj
  have hpos := id_pos hT.ids hx
  have g0 : (x.id == 0) = false := beq_eq_false_iff_ne.2 (by omega)
  have HH := Lib.hid h
  have HSP := Lib.hid (spot_any A c m (w.alloc (.cells #[.int .i64 m.next, .slice A m.nodes.length c] 24)) F (fun b hb => Nat.lt_of_lt_of_le (hF b hb) HB0.out.size) (h.keep ENode.stays (Keep.below HB0.out hF) (fun _ h => h)) hT.fam hs hr hl j hj x hje hk4 role a ha)
  have HT := Lib.hid hT; have HS := Lib.hid hs; have HRP := Lib.hid hrp; have HX := Lib.hid hx; have HD := Lib.hid hd
  have g1 : IntKind.i64.wrap ((d : Int) + high) = d + high := by rw [IntKind.wrap_i64]; omega
  clear h hT hs hrp hr hje hx hd hpos
  rcases hsp : spotI x.kids (inL m x role) a with _ | i
  · have hsp2 := HSP.out
    rw [hsp] at hsp2
    have HSP2 := Lib.hid hsp2
    have E := Lib.hid hsp
    clear hsp hsp2 HSP
    go_enter Try.func81, Try.ntmps81
    go_wp2_with fail
    refine HSP2.out.mono ?_
    rintro _ w1 ⟨rfl, hb1⟩
    have HB1 := Lib.hid (HB0.out.trans (hb1.mono HB0.out.size))
    clear hb1
    have q1 : decide ((-1 : Int) < 0) = true := by decide
    simp only [Option.getD_none, Option.isSome_none]
    go_wp2
    go_ret
    exact ⟨by first | rfl | (rw [E.out]; rfl), HB1.out⟩
  · have hsp2 := HSP.out
    rw [hsp] at hsp2
    have HSP2 := Lib.hid hsp2
    have E := Lib.hid hsp
    have hi0 : 0 ≤ i := (spotI_le inL_sub hsp).1
    clear hsp hsp2 HSP
    go_enter Try.func81, Try.ntmps81
    go_wp2_with fail
    refine HSP2.out.mono ?_
    rintro _ w1 ⟨rfl, hb1⟩
    have HB1 := Lib.hid (HB0.out.trans (hb1.mono HB0.out.size))
    have hm1 := HM0.out.below hb1 (by simp)
    have m0 := hm1.cell 0; have m1 := hm1.cell 1
    have hmlt := hm1.lt
    simp at m0 m1
    clear hb1 hm1
    simp only [Option.getD_some, Option.isSome_some]
    have q1 : decide (i < 0) = false := decide_eq_false (by omega)
    go_wp2_with fail
    refine (deep_any A c m w1 F (fun b hb => Nat.lt_of_lt_of_le (hF b hb) HB1.out.size) (HH.out.keep ENode.stays (Keep.below HB1.out hF) (fun _ h => h)) HT.out HS.out HRP.out hl x HX.out d HD.out hd6).mono ?_
    rintro _ w2 ⟨rfl, hb2⟩
    have HB2 := Lib.hid (HB1.out.trans (hb2.mono HB1.out.size))
    clear hb2
    by_cases hdeep : 64 < (d : Int) + high
    · have K := Lib.hid (kidE_deep (i := i) hdeep)
      have q2 : decide (64 < (d : Int) + high) = true := decide_eq_true hdeep
      clear hdeep
      go_wp2
      go_ret
      exact ⟨by first | (rw [K.out]; rfl) | (rw [E.out, K.out]; rfl), HB2.out⟩
    · have K := Lib.hid (kidE_ok (i := i) hdeep)
      have q2 : decide (64 < (d : Int) + high) = false := decide_eq_false hdeep
      clear hdeep
      go_wp2
      go_ret
      exact ⟨by first | (rw [K.out]; rfl) | (rw [E.out, K.out]; rfl), HB2.out⟩

set_option maxRecDepth 100000 in
set_option maxHeartbeats 2000000 in
theorem mayKid_any (A : Option Addr) (c : Nat) (m : AModel) (w : World) (F : Nat → Prop) (hF : ∀ b, F b → b < w.heap.size) (h : RowOf 7 ENode w F A m.nodes) (hT : Tree m) (hs : SrtB m.nodes) (hrp : ∀ x ∈ m.nodes, InR x.parent) (hr : ∀ x ∈ m.nodes, ∀ k ∈ x.kids, InR k) (hl : m.nodes.length ≤ 1048576) (j : Nat) (hj : j < m.nodes.length) (x : ANode) (hje : m.nodes[j] = x) (hk4 : x.kids.length ≤ 4096) (role : ByteArray) (a : Int) (ha : InR a) (d : Nat) (hd : Dep m d x.id) (hd6 : d ≤ 64) (high : Int) (hh : 0 ≤ high ∧ high ≤ 1048576) :
    Calls Try.prog 84 #[.agg #[.int .i64 m.next, .slice A m.nodes.length c], .int .i64 x.id, .string role, .int .i64 a, .int .i64 high] w fun e w' => e = .returned (.int .i64 (kidE (spotI x.kids (inL m x role) a) d high)) ∧ Below w.heap.size w w' := by
  have HB0 := Lib.hid ((Below.refl w.heap.size w).alloc (Nat.le_refl _) (.cells #[.int .i64 m.next, .slice A m.nodes.length c] 24))
  have HM0 := Lib.hid (Blk.new w 24 #[.int .i64 m.next, .slice A m.nodes.length c])
  have hx : x ∈ m.nodes := by rw [← hje]; exact List.getElem_mem hj
  have hpos := id_pos hT.ids hx
  have g0 : (x.id == 0) = false := beq_eq_false_iff_ne.2 (by omega)
  have HH := Lib.hid h
  have HSP := Lib.hid (before_any A c m (w.alloc (.cells #[.int .i64 m.next, .slice A m.nodes.length c] 24)) F (fun b hb => Nat.lt_of_lt_of_le (hF b hb) HB0.out.size) (h.keep ENode.stays (Keep.below HB0.out hF) (fun _ h => h)) hT.fam hs hr hl j hj x hje hk4 role a ha)
  have HT := Lib.hid hT; have HS := Lib.hid hs; have HRP := Lib.hid hrp; have HX := Lib.hid hx; have HD := Lib.hid hd
  have g1 : IntKind.i64.wrap ((d : Int) + high) = d + high := by rw [IntKind.wrap_i64]; omega
  clear h hT hs hrp hr hje hx hd hpos
  rcases hsp : spotI x.kids (inL m x role) a with _ | i
  · have hsp2 := HSP.out
    rw [hsp] at hsp2
    have HSP2 := Lib.hid hsp2
    have E := Lib.hid hsp
    clear hsp hsp2 HSP
    go_enter Try.func84, Try.ntmps84
    go_wp2_with fail
    refine HSP2.out.mono ?_
    rintro _ w1 ⟨rfl, hb1⟩
    have HB1 := Lib.hid (HB0.out.trans (hb1.mono HB0.out.size))
    clear hb1
    have q1 : decide ((-1 : Int) < 0) = true := by decide
    simp only [Option.getD_none, Option.isSome_none]
    go_wp2
    go_ret
    exact ⟨by first | rfl | (rw [E.out]; rfl), HB1.out⟩
  · have hsp2 := HSP.out
    rw [hsp] at hsp2
    have HSP2 := Lib.hid hsp2
    have E := Lib.hid hsp
    have hi0 : 0 ≤ i := (spotI_le inL_sub hsp).1
    clear hsp hsp2 HSP
    go_enter Try.func84, Try.ntmps84
    go_wp2_with fail
    refine HSP2.out.mono ?_
    rintro _ w1 ⟨rfl, hb1⟩
    have HB1 := Lib.hid (HB0.out.trans (hb1.mono HB0.out.size))
    have hm1 := HM0.out.below hb1 (by simp)
    have m0 := hm1.cell 0; have m1 := hm1.cell 1
    have hmlt := hm1.lt
    simp at m0 m1
    clear hb1 hm1
    simp only [Option.getD_some, Option.isSome_some]
    have q1 : decide (i < 0) = false := decide_eq_false (by omega)
    go_wp2_with fail
    refine (depth_any A c m w1 F (fun b hb => Nat.lt_of_lt_of_le (hF b hb) HB1.out.size) (HH.out.keep ENode.stays (Keep.below HB1.out hF) (fun _ h => h)) HT.out HS.out HRP.out hl x HX.out d HD.out hd6).mono ?_
    rintro _ w2 ⟨rfl, hb2⟩
    have HB2 := Lib.hid (HB1.out.trans (hb2.mono HB1.out.size))
    clear hb2
    by_cases hdeep : 64 < (d : Int) + high
    · have K := Lib.hid (kidE_deep (i := i) hdeep)
      have q2 : decide (64 < (d : Int) + high) = true := decide_eq_true hdeep
      clear hdeep
      go_wp2
      go_ret
      exact ⟨by first | (rw [K.out]; rfl) | (rw [E.out, K.out]; rfl), HB2.out⟩
    · have K := Lib.hid (kidE_ok (i := i) hdeep)
      have q2 : decide (64 < (d : Int) + high) = false := decide_eq_false hdeep
      clear hdeep
      go_wp2
      go_ret
      exact ⟨by first | (rw [K.out]; rfl) | (rw [E.out, K.out]; rfl), HB2.out⟩
end Go.Proofs.Ytmafhaadcjgcbaa
