import Derived.Test.YtpkapommekkbcaaDoorProg
import Derived.Test.YtpkapommekkbcaaDoorAPlain
import Derived.Test.YtpkapommekkbcaaDoorANodes
import Derived.Deep.LoopGhost
import Derived.Deep.DeepCutAuto
import Derived.IntWalk
set_option linter.unusedSimpArgs false
set_option linter.unusedVariables false
section
namespace Go.Proofs.YtpkapommekkbcaaDoor
open Go Go.RowKit

theorem less_any (a x : Int) (cn : ByteArray) (p : Int) (rl : ByteArray) (Sp Sk Sr : Option Addr) (np cp nk ck nr cr : Nat) (w : World) :
    Calls Tryd.prog 60 #[.agg #[.int .i64 a, .string cn, .int .i64 p, .string rl, .slice Sp np cp, .slice Sk nk ck, .slice Sr nr cr], .int .i64 x] w fun e w' => e = .returned (.int .i64 (wrap64 (a - x))) ∧ Below w.heap.size w w' := by
  go_enter Tryd.func60, Tryd.ntmps60
  go_wp2
  go_ret
  exact ⟨rfl, (Below.refl _ _).alloc (Nat.le_refl _) _⟩

/-- the numbers of Go's int -/
def InR (x : Int) : Prop := -9223372036854775808 ≤ x ∧ x ≤ 9223372036854775807
/-- nodes by rising IDs, none below 1 or too great -/
def SrtB (l : List ANode) : Prop := Srt l ∧ ∀ i (h : i < l.length), 1 ≤ l[i].id ∧ l[i].id ≤ 1048576
theorem IdsOK.srtB {m : AModel} (h : IdsOK m) : SrtB m.nodes := ⟨h.srt, fun i hi => by have h1 := h.2 i hi; have h2 := h.1; unfold HeadOK at h2; omega⟩
theorem less_in {a x : Int} (ha : 1 ≤ a ∧ a ≤ 1048576) (hx : 1 ≤ x ∧ x ≤ 1048576) : wrap64 (a - x) = a - x := IntWalk.wrap64_in _ ⟨by omega, by omega⟩
theorem less_zero {a x : Int} (ha : 1 ≤ a ∧ a ≤ 1048576) (hx : InR x) : wrap64 (a - x) = 0 ↔ a = x := by
  unfold InR at hx
  unfold wrap64
  omega
/-- what the search by halves keeps: the wanted one is not ahead of lo, nor behind hi -/
def Hv (l : List ANode) (id : Int) (lo hi : Nat) : Prop := lo ≤ hi ∧ hi ≤ l.length ∧ (∀ j (h : j < l.length), j < lo → l[j].id ≠ id) ∧ ∀ j (h : j < l.length), hi < j → l[j].id ≠ id
section
variable {l : List ANode} {id : Int} {lo hi h : Nat}
theorem Hv.start (l : List ANode) (id : Int) : Hv l id 0 l.length := ⟨Nat.zero_le _, Nat.le_refl _, fun j _ h => by omega, fun j h h2 => by omega⟩
theorem le_of_srt (hs : Srt l) {i j : Nat} (hi : i < l.length) (hj : j < l.length) (h : i ≤ j) : l[i].id ≤ l[j].id := by
  rcases Nat.lt_or_eq_of_le h with h1 | h1
  · exact Int.le_of_lt (hs i j hi hj h1)
  · subst h1; exact Int.le_refl _
theorem Hv.up (hh : Hv l id lo hi) (hs : SrtB l) (h1 : lo ≤ h) (h2 : h < hi) (hl : h < l.length) (e : wrap64 (l[h].id - id) < 0) : Hv l id (h + 1) hi := by
  obtain ⟨a, b, c, d⟩ := hh
  refine ⟨by omega, b, fun j hj hjl e2 => ?_, d⟩
  have h3 := le_of_srt hs.1 hj hl (by omega)
  rw [less_in (hs.2 h hl) (by have := hs.2 j hj; omega)] at e
  omega
theorem Hv.down (hh : Hv l id lo hi) (hs : SrtB l) (h1 : lo ≤ h) (h2 : h < hi) (hl : h < l.length) (e : ¬ wrap64 (l[h].id - id) < 0) : Hv l id lo h := by
  obtain ⟨a, b, c, d⟩ := hh
  refine ⟨h1, by omega, c, fun j hj hjl e2 => ?_⟩
  have h3 := hs.1 h j hl hj hjl
  rw [less_in (hs.2 h hl) (by have := hs.2 j hj; omega)] at e
  omega
theorem Hv.no (hh : Hv l id lo lo) (e : ∀ h : lo < l.length, l[lo].id ≠ id) : atI l id = -1 := by
  obtain ⟨a, b, c, d⟩ := hh
  refine atI_none fun i hi e2 => ?_
  rcases Nat.lt_trichotomy i lo with h | h | h
  · exact c i hi h e2
  · subst h; exact e hi e2
  · exact d i hi h e2
end
def BsPost (l : List ANode) (id : Int) (w : World) (e : Ending) (w' : World) : Prop :=
  ∃ (i : Nat) (b : Bool), e = .returned (.tuple #[.int .i64 i, .bool b]) ∧ atI l id = (if b then (i : Int) else -1) ∧ Below w.heap.size w w'

set_option maxRecDepth 100000 in
set_option maxHeartbeats 1000000 in
theorem bsf_any (A : Option Addr) (c : Nat) (id : Int) (l : List ANode) (w : World) (F : Nat → Prop) (hF : ∀ b, F b → b < w.heap.size) (h : RowOf 7 ENode w F A l) (hs : SrtB l) (hid : InR id) (hl : l.length ≤ 1048576) :
    Calls Tryd.prog 59 #[.slice A l.length c, .int .i64 id, .func (.func 60) #[] #[]] w (BsPost l id w) := by
  go_enter Tryd.func59, Tryd.ntmps59
  go_wp2_with fail
  go_loopg [9, 10, 11] l.length (fun g s9 s10 _ wx => ∃ lo hi : Nat, s9 = .int .i64 lo ∧ s10 = .int .i64 hi ∧ g = hi - lo ∧ Hv l id lo hi ∧ Below w.heap.size w wx)
  case atStart => exact ⟨0, l.length, rfl, rfl, rfl, Hv.start l id, Below.refl _ _⟩
  case round =>
    obtain ⟨lo, hi, rfl, rfl, rfl, hv, hb⟩ := hrel
    have hv1 := hv.1; have hv2 := hv.2.1
    have HV := Lib.hid hv; have HB := Lib.hid hb
    by_cases hlt : lo < hi
    · obtain ⟨m, hm⟩ : ∃ m, (lo + hi) / 2 = m := ⟨_, rfl⟩
      have hm1 : lo ≤ m := by omega
      have hm2 : m < hi := by omega
      have hml : m < l.length := by omega
      have hR := RowOf.keep ENode.stays (Keep.below hb hF) (F' := F) (fun _ h => h) h
      obtain ⟨b, off, Sp, cp, Sk, ck, Sr, cr, rfl, hbF, d0, d1, d2, d3, d4, d5, d6, _⟩ := node_at hR hml
      have Hm := Lib.hid hm
      clear hR hv hb hm
      have hlt' : (lo : Int) < hi := by omega
      have hm' : ((lo : Int) + hi) / 2 = m := by have := Hm.out; omega
      have m1 : (0 : Int) ≤ m := by omega
      have m2 : (m : Int) < l.length := by omega
      have m3 : (m : Int) ≤ 1048576 := by omega
      go_upto_region 5 with fail
      clear hm'
      go_wp2_with fail
      refine (less_any _ _ _ _ _ _ _ _ _ _ _ _ _ _ _).mono ?_
      rintro _ w1 ⟨rfl, hb1⟩
      have HB1 := Lib.hid (HB.out.trans (hb1.mono HB.out.size))
      clear hb1 d0 d1 d2 d3 d4 d5 d6
      by_cases hneg : wrap64 (l[m].id - id) < 0
      · have HU := Lib.hid (HV.out.up hs hm1 hm2 hml hneg)
        go_wp2
        go_roundg (hi - (m + 1))
        case measure => omega
        case rel => exact ⟨m + 1, hi, by go_num, rfl, rfl, HU.out, HB1.out⟩
      · have HU := Lib.hid (HV.out.down hs hm1 hm2 hml hneg)
        go_wp2
        go_roundg (m - lo)
        case measure => omega
        case rel => exact ⟨lo, m, rfl, rfl, rfl, HU.out, HB1.out⟩
    · have e : hi = lo := by omega
      subst e
      have hlt' : ¬ (hi : Int) < hi := by omega
      by_cases hlo : hi < l.length
      · have hR := RowOf.keep ENode.stays (Keep.below hb hF) (F' := F) (fun _ h => h) h
        obtain ⟨b, off, Sp, cp, Sk, ck, Sr, cr, rfl, hbF, d0, d1, d2, d3, d4, d5, d6, _⟩ := node_at hR hlo
        have hz := less_zero (hs.2 hi hlo) hid
        have m1 : (0 : Int) ≤ hi := by omega
        have m2 : (hi : Int) < l.length := by omega
        clear hR hv hb
        by_cases he : l[hi].id = id
        · have HZ := Lib.hid (hz.2 he)
          have HA := Lib.hid (atI_some hs.1 hlo he)
          clear hz he
          go_wp2_with fail
          refine (less_any _ _ _ _ _ _ _ _ _ _ _ _ _ _ _).mono ?_
          rintro _ w1 ⟨rfl, hb1⟩
          have HB1 := Lib.hid (HB.out.trans (hb1.mono HB.out.size))
          rw [HZ.out]
          clear hb1 d0 d1 d2 d3 d4 d5 d6
          go_wp2
          go_ret2
          exact ⟨hi, true, rfl, HA.out, HB1.out⟩
        · have HZ := Lib.hid (beq_eq_false_iff_ne.2 (fun e => he (hz.1 e)))
          have HA := Lib.hid (HV.out.no (fun _ => he))
          clear hz he
          go_wp2_with fail
          refine (less_any _ _ _ _ _ _ _ _ _ _ _ _ _ _ _).mono ?_
          rintro _ w1 ⟨rfl, hb1⟩
          have HB1 := Lib.hid (HB.out.trans (hb1.mono HB.out.size))
          generalize hy : wrap64 (l[hi].id - id) = y at HZ ⊢
          have hy' := HZ.out
          clear hb1 d0 d1 d2 d3 d4 d5 d6 hy
          go_wp2
          go_ret2
          exact ⟨hi, false, rfl, HA.out, HB1.out⟩
      · have HA := Lib.hid (HV.out.no (fun h => absurd h hlo))
        have hlo' : decide ((hi : Int) < l.length) = false := decide_eq_false (by omega)
        clear hv hb
        go_wp2
        go_ret2
        exact ⟨hi, false, rfl, HA.out, HB.out⟩

set_option maxRecDepth 100000 in
set_option maxHeartbeats 1000000 in
theorem place_any (A : Option Addr) (c : Nat) (nx id : Int) (l : List ANode) (w : World) (F : Nat → Prop) (hF : ∀ b, F b → b < w.heap.size) (h : RowOf 7 ENode w F A l) (hs : SrtB l) (hid : InR id) (hl : l.length ≤ 1048576) :
    Calls Tryd.prog 47 #[.agg #[.int .i64 nx, .slice A l.length c], .int .i64 id] w fun e w' => e = .returned (.int .i64 (atI l id)) ∧ Below w.heap.size w w' := by
  go_enter Tryd.func47, Tryd.ntmps47
  go_wp2_with fail
  refine (bsf_any A c id l _ F (fun b hb => by have := hF b hb; simp; omega) (h.keep ENode.stays (Keep.alloc _ _ hF) (fun _ h => h)) hs hid hl).mono ?_
  rintro _ w1 ⟨i, b, rfl, hi, hb⟩
  have HI := Lib.hid hi
  have HB := Lib.hid ((((Below.refl w.heap.size w).alloc (Nat.le_refl _) _)).trans (hb.mono (by simp)))
  clear hi hb
  cases b
  · go_wp2
    go_ret
    exact ⟨by rw [HI.out]; rfl, HB.out⟩
  · go_wp2
    go_ret
    exact ⟨by rw [HI.out]; rfl, HB.out⟩
end Go.Proofs.YtpkapommekkbcaaDoor
end
section
namespace Go.Proofs.YtpkapommekkbcaaDoor
open Go Go.RowKit

set_option maxRecDepth 100000 in
set_option maxHeartbeats 1000000 in
theorem at_any (A : Option Addr) (c : Nat) (nx id : Int) (l : List ANode) (w : World) (F : Nat → Prop) (hF : ∀ b, F b → b < w.heap.size) (h : RowOf 7 ENode w F A l) (hs : Srt l) (hl : l.length ≤ 1048576) :
    Calls Tryd.prog 41 #[.agg #[.int .i64 nx, .slice A l.length c], .int .i64 id] w fun e w' => e = .returned (.int .i64 (atI l id)) ∧ Below w.heap.size w w' := by
  go_enter Tryd.func41, Tryd.ntmps41
  go_wp2
  go_quiet (fail)
  go_wp2
  go_loopg [5, 6, 7] l.length (fun g s5 s6 _ wx => ∃ lo hi : Nat, s5 = .int .i64 lo ∧ s6 = .int .i64 hi ∧ g = hi - lo ∧ Halves l id lo hi ∧ Below w.heap.size w wx ∧ Blk wx w.heap.size 24 #[.int .i64 nx, .slice A l.length c])
  case atStart => exact ⟨0, l.length, rfl, rfl, rfl, Halves.start l id, below_drewN ((Below.refl _ _).alloc (Nat.le_refl _) _) _, (Blk.new _ _ _).drewN _⟩
  case round =>
    obtain ⟨lo, hi, rfl, rfl, rfl, hv, hb, hx⟩ := hrel
    have hv1 := hv.1; have hv2 := hv.2.1
    have HV := Lib.hid hv; have HB := Lib.hid hb; have HX := Lib.hid hx
    have hx1 := hx.cell 1
    simp at hx1
    by_cases hlt : lo < hi
    · obtain ⟨m, hm⟩ : ∃ m, (lo + hi) / 2 = m := ⟨_, rfl⟩
      have hm1 : lo ≤ m := by omega
      have hm2 : m < hi := by omega
      have hml : m < l.length := by omega
      have hR := RowOf.keep ENode.stays (Keep.below hb hF) (F' := F) (fun _ h => h) h
      obtain ⟨b, off, Sp, cp, Sk, ck, Sr, cr, rfl, hbF, d0, _, _, _, _, _, _, _⟩ := node_at hR hml
      have Hm := Lib.hid hm
      clear hR hv hb hx hm
      have hlt' : (lo : Int) < hi := by omega
      have hm' : ((lo : Int) + hi) / 2 = m := by have := Hm.out; omega
      have m1 : (0 : Int) ≤ m := by omega
      have m2 : (m : Int) < l.length := by omega
      have m3 : (m : Int) ≤ 1048576 := by omega
      go_upto_region 4 with fail
      try simp only [hm']
      clear hm'
      by_cases hneg : l[m].id < id
      · have HU := Lib.hid (HV.out.up hs hm1 hm2 hml hneg)
        go_wp2
        go_roundg (hi - (m + 1))
        case measure => omega
        case rel => exact ⟨m + 1, hi, by go_num, rfl, rfl, HU.out, HB.out, HX.out⟩
      · have HU := Lib.hid (HV.out.down hs hm1 hm2 hml (by omega))
        have hneg' : id ≤ l[m].id := by omega
        go_wp2
        go_roundg (m - lo)
        case measure => omega
        case rel => exact ⟨lo, m, rfl, rfl, rfl, HU.out, HB.out, HX.out⟩
    · have e : hi = lo := by omega
      subst e
      have hlt' : ¬ (hi : Int) < hi := by omega
      by_cases hlo : hi < l.length
      · have hR := RowOf.keep ENode.stays (Keep.below hb hF) (F' := F) (fun _ h => h) h
        obtain ⟨b, off, Sp, cp, Sk, ck, Sr, cr, rfl, hbF, d0, _, _, _, _, _, _, _⟩ := node_at hR hlo
        have m1 : (0 : Int) ≤ hi := by omega
        have m2 : (hi : Int) < l.length := by omega
        clear hR hv hb hx
        by_cases he : l[hi].id = id
        · have HA := Lib.hid (atI_some hs hlo he)
          have he' : (l[hi].id == id) = true := beq_iff_eq.2 he
          clear he
          go_wp2
          go_ret
          exact ⟨by rw [HA.out]; rfl, HB.out⟩
        · have he' : (l[hi].id == id) = false := beq_eq_false_iff_ne.2 he
          have HA := Lib.hid (HV.out.no hs (fun _ => he))
          clear he
          go_wp2
          go_ret
          exact ⟨by rw [HA.out]; rfl, HB.out⟩
      · have HA := Lib.hid (HV.out.no hs (fun h => absurd h hlo))
        have hlo' : decide ((hi : Int) < l.length) = false := decide_eq_false (by omega)
        clear hv hb hx
        go_wp2
        go_ret
        exact ⟨by rw [HA.out]; rfl, HB.out⟩
end Go.Proofs.YtpkapommekkbcaaDoor
end
