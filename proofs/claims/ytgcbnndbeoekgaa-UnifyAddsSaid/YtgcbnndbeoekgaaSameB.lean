import Derived.Test.YtgcbnndbeoekgaaFindB
import Derived.Test.YtgcbnndbeoekgaaAlike
import Derived.Lib.QuietBelow
set_option linter.unusedSimpArgs false
set_option linter.unusedVariables false
/- two bounds that read alike are the same -/
namespace Go.Proofs.Ytgcbnndbeoekgaa
open Go Go.RowKit

set_option maxRecDepth 100000 in
set_option maxHeartbeats 4000000 in
theorem sameB_any (A A' : Option Addr) (c c' : Nat) (bd : List ABind) (w : World) (hr : RowOf 2 EBind w (fun b => b < w.heap.size) A bd) (hr' : RowOf 2 EBind w (fun b => b < w.heap.size) A' bd) (hc1 : bd.length ≤ c) (hc2 : c ≤ maxLen) :
    Calls Try.prog 16 #[.slice A bd.length c, .slice A' bd.length c'] w fun e w' => e = .returned (.bool true) ∧ Below w.heap.size w w' := by
  have HR := Lib.hid hr; have HR' := Lib.hid hr'
  have hll : bd.length ≤ 9223372036854775807 := by unfold maxLen at hc2; omega
  clear hr hr' hc1 hc2
  go_enter Try.func16, Try.ntmps16
  go_wp2
  go_loopg [5] bd.length (fun g s5 wx => ∃ i : Nat, s5 = .int .i64 i ∧ g = bd.length - i ∧ i ≤ bd.length ∧ Below w.heap.size w wx)
  case atStart => exact ⟨0, rfl, rfl, Nat.zero_le _, Below.refl _ _⟩
  case round =>
    obtain ⟨i, rfl, rfl, hi, hb⟩ := hrel
    have HB := Lib.hid hb
    have i0 : (0 : Int) ≤ i := by omega
    by_cases hlt : i < bd.length
    · have hlt' : (i : Int) < bd.length := by omega
      obtain ⟨b, off, S, k, rfl, hbF, d0, d1, hk1, hk2, hrow⟩ := bind_at HR.out hlt
      obtain ⟨b', off', S', k', rfl, hbF', d0', d1', hk1', hk2', hrow'⟩ := bind_at HR'.out hlt
      have d0 := (hb.cell (p := ⟨b, off + i * 2, none⟩) hbF).trans d0
      have d1 := (hb.cell (p := ⟨b, off + i * 2 + 1, none⟩) hbF).trans d1
      have d0' := (hb.cell (p := ⟨b', off' + i * 2, none⟩) hbF').trans d0'
      have d1' := (hb.cell (p := ⟨b', off' + i * 2 + 1, none⟩) hbF').trans d1'
      have HAL := Lib.hid (fun (w' : World) (hb : Below w.heap.size w w') => alike_any (.slice S bd[i].term.length k) (.slice S' bd[i].term.length k') bd[i].term w' ⟨S, k, rfl, hk1, hk2, hrow.keep ETN.stays (Keep.below hb fun _ h => h) (fun b h => Nat.lt_of_lt_of_le h hb.size)⟩ ⟨S', k', rfl, hk1', hk2', hrow'.keep ETN.stays (Keep.below hb fun _ h => h) (fun b h => Nat.lt_of_lt_of_le h hb.size)⟩)
      generalize bd[i].term.length = n at *
      generalize bd[i].hole = x at *
      have g0 : (x != x) = false := by simp
      clear hrow hrow' hk1 hk2 hk1' hk2' hb
      go_upto_region 6 with fail
      have k0 := cell_regrown (d0)
      have k1 := cell_regrown (d1)
      have k2 := cell_regrown (d0')
      have k3 := cell_regrown (d1')
      have CH := Lib.hid (fun (d : Nat) (os : Array Obj) => Calls.regrown_of (w := wr) (d := d) (os := os) (HAL.out _ (HB.out.trans ((below_regrown wr d os).mono HB.out.size))))
      refine wp_region_quiet_below (by kernel_rfl) (by kernel_rfl) ?_
      repeat (first | go_big_quiet_step (exact CH.out _ _) | quiet_step (exact CH.out _ _))
      refine wpQuiet_nil ?_
      intro _ hw'
      obtain ⟨⟨dq, osq⟩, hw''⟩ := hw'
      subst hw''
      have hbq := below_regrown wr dq osq
      have HB2 := Lib.hid (HB.out.trans (hbq.mono HB.out.size))
      clear hbq
      go_wp2
      go_roundg (bd.length - (i + 1))
      case measure => omega
      case rel => exact ⟨i + 1, by go_num, rfl, by omega, HB2.out⟩
    · have hlt' : ¬ (i : Int) < bd.length := by omega
      clear hb
      go_wp2
      go_ret
      exact ⟨rfl, HB.out⟩
end Go.Proofs.Ytgcbnndbeoekgaa
