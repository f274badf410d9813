import Derived.Test.YtgcbnndbeoekgaaTerm
import Derived.Deep.RegionHeld3
import Derived.Deep.LoopGhost
import Derived.Deep.DeepCutAuto
set_option linter.unusedSimpArgs false
set_option linter.unusedVariables false
namespace Go.Proofs.Ytgcbnndbeoekgaa
open Go Go.RowKit

theorem below_drewN {B : Nat} {w w' : World} (h : Below B w w') (n : Nat) : Below B w (w'.drewN n) := by
  induction n with
  | zero => exact h
  | succ n ih => exact ih.drew

set_option maxRecDepth 100000 in
set_option maxHeartbeats 2000000 in
/-- two terms that read alike are alike -/
theorem alike_any (v v' : Value) (l : List TN) (w : World) (h : IsRow 3 ETN w (fun b => b < w.heap.size) v l) (h' : IsRow 3 ETN w (fun b => b < w.heap.size) v' l) :
    Calls Try.prog 9 #[.agg #[v], .agg #[v']] w fun e w' => e = .returned (.bool true) ∧ Below w.heap.size w w' := by
  obtain ⟨A, c, rfl, hc1, hc2, hr⟩ := h
  obtain ⟨A', c', rfl, hc1', hc2', hr'⟩ := h'
  unfold maxLen at hc2 hc2'
  go_enter Try.func9, Try.ntmps9
  go_wp2
  go_loopg [5, 6, 7, 8] l.length (fun g s5 s6 s7 s8 wr => ∃ i : Nat, s5 = .int .i64 i ∧ g = l.length - i ∧ i ≤ l.length ∧ Below w.heap.size w wr ∧ Blk wr w.heap.size 24 #[.slice A l.length c] ∧ Blk wr (w.heap.size + 1) 24 #[.slice A' l.length c'])
  case atStart => exact ⟨0, rfl, rfl, Nat.zero_le _, ((Below.refl _ _).alloc (Nat.le_refl _) _).alloc (by simp) _, (Blk.new _ _ _).alloc _, Blk.new' (by simp)⟩
  case round =>
    obtain ⟨i, rfl, rfl, hi, hb, hx, hy⟩ := hrel
    have hx0 := hx.cell 0; have hy0 := hy.cell 0
    simp at hx0 hy0
    have HB := Lib.hid hb; have HX := Lib.hid hx; have HY := Lib.hid hy
    have hlx := hx.lt; have hly := hy.lt
    clear hx hy
    by_cases hlt : i < l.length
    · have hR := RowOf.keep ETN.stays (Keep.below hb fun _ h => h) (F' := fun b => b < w.heap.size) (fun _ h => h) hr
      have hR' := RowOf.keep ETN.stays (Keep.below hb fun _ h => h) (F' := fun b => b < w.heap.size) (fun _ h => h) hr'
      obtain ⟨b, off, S, k, rfl, hbF, d0, d1, d2, hk1, hk2, hrow⟩ := nodes_at hR hlt
      obtain ⟨b', off', S', k', rfl, hbF', d0', d1', d2', hk1', hk2', hrow'⟩ := nodes_at hR' hlt
      have m1 : (0 : Int) ≤ i := by omega
      have m2 : (i : Int) < l.length := by omega
      clear hb hR hR'
      obtain ⟨la, hla⟩ : ∃ la, l[i].args = la := ⟨_, rfl⟩
      rw [hla] at d2 hk1 hrow d2' hk1' hrow'
      generalize l[i].var = x at *
      generalize l[i].name = y at *
      clear hla
      unfold maxLen at hk2 hk2'
      go_upto_region 6 with fail
      go_cut [6, 7] (fun s6 s7 wx => ∃ p q : Nat, s6 = .pointer (some ⟨p, 0, none⟩) ∧ s7 = .pointer (some ⟨q, 0, none⟩) ∧ Below wr.heap.size wr wx ∧ Blk wx p 66 #[.int .i64 x, .string y, .slice S la.length k] ∧ Blk wx q 66 #[.int .i64 x, .string y, .slice S' la.length k'])
      case first =>
        go_region_held3 (fun w' => w'.cell? ⟨w.heap.size, 0, none⟩ = some (.slice (some ⟨b, off, none⟩) l.length c) ∧ w'.cell? ⟨w.heap.size + 1, 0, none⟩ = some (.slice (some ⟨b', off', none⟩) l.length c') ∧ w'.cell? ⟨b, off + i * 3, none⟩ = some (.int .i64 x) ∧ w'.cell? ⟨b, off + i * 3 + 1, none⟩ = some (.string y) ∧ w'.cell? ⟨b, off + i * 3 + 2, none⟩ = some (.slice S la.length k) ∧ w'.cell? ⟨b', off' + i * 3, none⟩ = some (.int .i64 x) ∧ w'.cell? ⟨b', off' + i * 3 + 1, none⟩ = some (.string y) ∧ w'.cell? ⟨b', off' + i * 3 + 2, none⟩ = some (.slice S' la.length k')) (go_keep) (fail)
        all_goals go_wp2_with fail
        all_goals go_meet
        case rel => exact ⟨_, _, rfl, rfl, (((Below.refl _ _).alloc (Nat.le_refl _) _).alloc (by simp) _).drew, (Blk.new _ _ _).alloc _, Blk.new' (by simp)⟩
        case rel => exact ⟨_, _, rfl, rfl, (((Below.refl _ _).alloc (Nat.le_refl _) _).alloc (by simp) _).drew, Blk.new' (by simp), (Blk.new _ _ _).alloc _⟩
      case rest =>
        obtain ⟨p, q, rfl, rfl, hb6, h6, h7⟩ := hcut
        have HB6 := Lib.hid hb6
        have c60 := h6.cell 0; have c61 := h6.cell 1; have c62 := h6.cell 2
        have c70 := h7.cell 0; have c71 := h7.cell 1; have c72 := h7.cell 2
        simp at c60 c61 c62 c70 c71 c72
        have H6 := Lib.hid h6; have H7 := Lib.hid h7
        clear hb6 h6 h7 hx0 hy0 d0 d1 d2 d0' d1' d2'
        obtain ⟨wo, rfl⟩ : ∃ wo : World, wo = wr := ⟨_, rfl⟩
        go_wp2_with fail
        clear c60 c61 c62 c70 c71 c72
        go_loopg [8] la.length (fun g s8 wx => ∃ j : Nat, s8 = .int .i64 j ∧ g = la.length - j ∧ j ≤ la.length ∧ Below wo.heap.size wo wx ∧ Blk wx p 66 #[.int .i64 x, .string y, .slice S la.length k] ∧ Blk wx q 66 #[.int .i64 x, .string y, .slice S' la.length k'])
        case atStart => exact ⟨0, rfl, rfl, Nat.zero_le _, HB6.out, H6.out, H7.out⟩
        case round =>
          obtain ⟨j, rfl, rfl, hj, hb8, h6, h7⟩ := hrel
          have c62 := h6.cell 2; have c72 := h7.cell 2
          simp at c62 c72
          have HB8 := Lib.hid hb8
          have H6 := Lib.hid h6; have H7 := Lib.hid h7
          clear h6 h7
          by_cases hjl : j < la.length
          · obtain ⟨g, o, rfl, hg, a1⟩ := ints_at hrow hjl
            obtain ⟨g', o', rfl, hg', a2⟩ := ints_at hrow' hjl
            have a1 := (hb8.cell (p := ⟨g, o + j, none⟩) (by show g < wo.heap.size; omega)).trans a1
            have a2 := (hb8.cell (p := ⟨g', o' + j, none⟩) (by show g' < wo.heap.size; omega)).trans a2
            generalize la[j] = z at *
            have n1 : (0 : Int) ≤ j := by omega
            have n2 : (j : Int) < la.length := by omega
            clear hb8
            go_wp2
            go_quiet (fail)
            go_wp2
            go_roundg (la.length - (j + 1))
            case measure => omega
            case rel => exact ⟨j + 1, by go_num, rfl, by omega, below_drewN HB8.out _, H6.out.drewN _, H7.out.drewN _⟩
          · have hjl' : decide ((j : Int) < la.length) = false := decide_eq_false (by omega)
            clear hb8
            go_wp2
            go_roundg (l.length - (i + 1))
            case measure => omega
            case rel => exact ⟨i + 1, by go_num, rfl, by omega, HB.out.trans (HB8.out.mono (by omega)), HX.out.below HB8.out hlx, HY.out.below HB8.out hly⟩
    · have hlt' : decide ((i : Int) < l.length) = false := decide_eq_false (by omega)
      go_wp2
      go_ret
      exact ⟨rfl, HB.out⟩
end Go.Proofs.Ytgcbnndbeoekgaa
