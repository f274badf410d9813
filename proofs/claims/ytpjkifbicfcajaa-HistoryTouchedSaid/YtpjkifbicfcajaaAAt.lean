import Derived.Test.YtpjkifbicfcajaaAPlace
set_option linter.unusedSimpArgs false
set_option linter.unusedVariables false
namespace Go.Proofs.Ytpjkifbicfcajaa
open Go Go.RowKit

set_option maxRecDepth 100000 in
set_option maxHeartbeats 1000000 in
theorem at_any (A : Option Addr) (c : Nat) (nx id : Int) (l : List ANode) (w : World) (F : Nat → Prop) (hF : ∀ b, F b → b < w.heap.size) (h : RowOf 7 ENode w F A l) (hs : Srt l) (hl : l.length ≤ 1048576) :
    Calls Try.prog 85 #[.agg #[.int .i64 nx, .slice A l.length c], .int .i64 id] w fun e w' => e = .returned (.int .i64 (atI l id)) ∧ Below w.heap.size w w' := by
  go_enter Try.func85, Try.ntmps85
  go_wp2
  go_quiet (fail)
  go_wp2
  go_loopg [5, 6, 7] l.length (fun g s5 s6 _ wx => ∃ lo hi : Nat, s5 = .int .i64 lo ∧ s6 = .int .i64 hi ∧ g = hi - lo ∧ Halves l id lo hi ∧ Below w.heap.size w wx ∧ Blk wx w.heap.size 27 #[.int .i64 nx, .slice A l.length c])
  case atStart => exact ⟨0, l.length, rfl, rfl, rfl, Halves.start l id, below_drewN ((Below.refl _ _).alloc (Nat.le_refl _) _) _, (Blk.new _ _ _).drewN _⟩
  case round =>
    obtain ⟨lo, hi, rfl, rfl, rfl, hv, hb, hx⟩ := hrel
    have hv1 := hv.1; have hv2 := hv.2.1
    have HV := Lib.hid hv; have HB := Lib.hid hb; have HX := Lib.hid hx
    have hx1 := hx.cell 1
    simp at hx1
    by_cases hlt : lo < hi
    · obtain ⟨m, hm⟩ : ∃ m, (lo + hi) / 2 = m := ⟨_, rfl⟩
      have hm1 : lo ≤ m := by omega
      have hm2 : m < hi := by omega
      have hml : m < l.length := by omega
      have hR := RowOf.keep ENode.stays (Keep.below hb hF) (F' := F) (fun _ h => h) h
      obtain ⟨b, off, Sp, cp, Sk, ck, Sr, cr, rfl, hbF, d0, _, _, _, _, _, _, _⟩ := node_at hR hml
      have Hm := Lib.hid hm
      clear hR hv hb hx hm
      have hlt' : (lo : Int) < hi := by omega
      have hm' : ((lo : Int) + hi) / 2 = m := by have := Hm.out; omega
      have m1 : (0 : Int) ≤ m := by omega
      have m2 : (m : Int) < l.length := by omega
      have m3 : (m : Int) ≤ 1048576 := by omega
      go_upto_region 4 with fail
      try simp only [hm']
      clear hm'
      by_cases hneg : l[m].id < id
      · have HU := Lib.hid (HV.out.up hs hm1 hm2 hml hneg)
        go_wp2
        go_roundg (hi - (m + 1))
        case measure => omega
        case rel => exact ⟨m + 1, hi, by go_num, rfl, rfl, HU.out, HB.out, HX.out⟩
      · have HU := Lib.hid (HV.out.down hs hm1 hm2 hml (by omega))
        have hneg' : id ≤ l[m].id := by omega
        go_wp2
        go_roundg (m - lo)
        case measure => omega
        case rel => exact ⟨lo, m, rfl, rfl, rfl, HU.out, HB.out, HX.out⟩
    · have e : hi = lo := by omega
      subst e
      have hlt' : ¬ (hi : Int) < hi := by omega
      by_cases hlo : hi < l.length
      · have hR := RowOf.keep ENode.stays (Keep.below hb hF) (F' := F) (fun _ h => h) h
        obtain ⟨b, off, Sp, cp, Sk, ck, Sr, cr, rfl, hbF, d0, _, _, _, _, _, _, _⟩ := node_at hR hlo
        have m1 : (0 : Int) ≤ hi := by omega
        have m2 : (hi : Int) < l.length := by omega
        clear hR hv hb hx
        by_cases he : l[hi].id = id
        · have HA := Lib.hid (atI_some hs hlo he)
          have he' : (l[hi].id == id) = true := beq_iff_eq.2 he
          clear he
          go_wp2
          go_ret
          exact ⟨by rw [HA.out]; rfl, HB.out⟩
        · have he' : (l[hi].id == id) = false := beq_eq_false_iff_ne.2 he
          have HA := Lib.hid (HV.out.no hs (fun _ => he))
          clear he
          go_wp2
          go_ret
          exact ⟨by rw [HA.out]; rfl, HB.out⟩
      · have HA := Lib.hid (HV.out.no hs (fun h => absurd h hlo))
        have hlo' : decide ((hi : Int) < l.length) = false := decide_eq_false (by omega)
        clear hv hb hx
        go_wp2
        go_ret
        exact ⟨by rw [HA.out]; rfl, HB.out⟩
end Go.Proofs.Ytpjkifbicfcajaa
