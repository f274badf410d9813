import Derived.Test.YtmafhaadcjgcbaaASameRef
namespace Go.Proofs.Ytmafhaadcjgcbaa
open Go Go.RowKit

/-- a node that is lent, in a row: its cells, its lists, their marks -/
theorem nodeM_at {w : World} {F : Nat → Prop} {A : Option Addr} {l : List ANode} (h : RowOf 7 ENodeM w F A l) {i : Nat} (hi : i < l.length) :
    ∃ b off bp op cp bk ok ck br or cr, A = some ⟨b, off, none⟩ ∧ F b ∧
      w.cell? ⟨b, off + i * 7, none⟩ = some (.int .i64 l[i].id) ∧ w.cell? ⟨b, off + i * 7 + 1, none⟩ = some (.string l[i].concept) ∧
      w.cell? ⟨b, off + i * 7 + 2, none⟩ = some (.int .i64 l[i].parent) ∧ w.cell? ⟨b, off + i * 7 + 3, none⟩ = some (.string l[i].role) ∧
      w.cell? ⟨b, off + i * 7 + 4, none⟩ = some (.slice (some ⟨bp, op, none⟩) l[i].props.length cp) ∧ w.cell? ⟨b, off + i * 7 + 5, none⟩ = some (.slice (some ⟨bk, ok, none⟩) l[i].kids.length ck) ∧
      w.cell? ⟨b, off + i * 7 + 6, none⟩ = some (.slice (some ⟨br, or, none⟩) l[i].refs.length cr) ∧
      (l[i].props.length < cp ∧ cp ≤ maxLen ∧ F bp ∧ w.cell? ⟨bp, op + l[i].props.length * 2, none⟩ = some markStr) ∧ (l[i].kids.length < ck ∧ ck ≤ maxLen ∧ F bk ∧ w.cell? ⟨bk, ok + l[i].kids.length, none⟩ = some (.int .i64 (-7))) ∧ (l[i].refs.length < cr ∧ cr ≤ maxLen ∧ F br ∧ w.cell? ⟨br, or + l[i].refs.length * 2, none⟩ = some markStr) := by
  obtain ⟨b, off, rfl, hb⟩ := h.1 (by intro hn; subst hn; simp at hi)
  obtain ⟨cs, _, ⟨vp, vk, vr, hx, ⟨_, cp, rfl, p1, p2, p3, bp, op, rfl, p5, p6⟩, ⟨_, ck, rfl, k1, k2, k3, bk, ok, rfl, k5, k6⟩, ⟨_, cr, rfl, r1, r2, r3, br, or, rfl, r5, r6⟩⟩, hc⟩ := h.2 i hi
  have hc := hc b off rfl
  subst hx
  exact ⟨b, off, bp, op, cp, bk, ok, ck, br, or, cr, rfl, hb, hc 0 (by omega), hc 1 (by omega), hc 2 (by omega), hc 3 (by omega), hc 4 (by omega), hc 5 (by omega), hc 6 (by omega), ⟨p1, p2, p5, p6⟩, ⟨k1, k2, k5, by simpa using k6⟩, ⟨r1, r2, r5, r6⟩⟩

set_option maxRecDepth 100000 in
set_option maxHeartbeats 2000000 in
/-- a lent model is as it was -/
theorem kept_any (v v' : Value) (m : AModel) (w : World) (F F' : Nat → Prop) (hF : ∀ b, F b → b < w.heap.size) (hF' : ∀ b, F' b → b < w.heap.size) (h : IsModelM w F v m) (h' : IsModel w F' v' m) (hl : m.nodes.length ≤ 300) :
    Calls Try.prog 20 #[v, v'] w fun e w' => e = .returned (.bool true) ∧ Below w.heap.size w w' := by
  obtain ⟨_, rfl, A, c, rfl, hc1, hc2, hrow, b, off, rfl, hbF, hmark⟩ := h
  obtain ⟨_, rfl, A', c', rfl, hc1', hc2', hrow'⟩ := h'
  have hplain : RowOf 7 ENode w F (some ⟨b, off, none⟩) m.nodes := hrow.imp fun _ _ h => h.plain
  have HB0 := Lib.hid (((Below.refl w.heap.size w).alloc (Nat.le_refl _) (.cells #[.int .i64 m.next, .slice (some ⟨b, off, none⟩) m.nodes.length c] 24)).alloc (by simp) (.cells #[.int .i64 m.next, .slice A' m.nodes.length c'] 24))
  have HSM := Lib.hid (fun (w0 : World) (hb0 : Below w.heap.size w w0) => res_is (eqB_yes (rfl : m = m)) (same_any (some ⟨b, off, none⟩) A' c c' m m w0 F F' (fun b hb' => by have := hF b hb'; have := hb0.size; omega) (fun b hb' => by have := hF' b hb'; have := hb0.size; omega) (hplain.keep ENode.stays (Keep.below hb0 hF) (fun _ h => h)) (hrow'.keep ENode.stays (Keep.below hb0 hF') (fun _ h => h)) (by omega)))
  unfold maxLen at hc2
  have hbw := hF _ hbF
  have g1 : IntKind.i64.wrap ((m.nodes.length : Int) + 1) = m.nodes.length + 1 := IntWalk.i64_in _ ⟨by omega, by omega⟩
  have g2 : (m.nodes.length : Int) + 1 ≤ c := by omega
  have g3 : (0 : Int) ≤ (m.nodes.length : Int) + 1 := by omega
  have g4 : ((m.nodes.length : Int) + 1).toNat = m.nodes.length + 1 := by omega
  have g5 : (m.nodes.length : Int) < ((m.nodes.length + 1 : Nat) : Int) := by omega
  have g6 : m.nodes.length + 1 ≤ c := by omega
  go_enter Try.func20, Try.ntmps20
  go_wp2_with fail
  obtain ⟨v, hv⟩ : ∃ v : World, (w.alloc (.cells #[.int .i64 m.next, .slice (some ⟨b, off, none⟩) m.nodes.length c] 24)).alloc (.cells #[.int .i64 m.next, .slice A' m.nodes.length c'] 24) = v := ⟨_, rfl⟩
  have HBV : Hid (Below w.heap.size w v) := Lib.hid (by rw [← hv]; exact HB0.out)
  have HM : Hid (Blk v w.heap.size 24 #[.int .i64 m.next, .slice (some ⟨b, off, none⟩) m.nodes.length c]) := Lib.hid (by rw [← hv]; exact (Blk.new _ _ _).alloc _)
  have HN : Hid (Blk v (w.heap.size + 1) 24 #[.int .i64 m.next, .slice A' m.nodes.length c']) := Lib.hid (by rw [← hv]; exact Blk.new' (by simp))
  rw [hv]
  clear hv HB0
  have m0 := HM.out.cell 0; have m1 := HM.out.cell 1; have n0 := HN.out.cell 0; have n1 := HN.out.cell 1
  have hmlt := HM.out.lt; have hnlt := HN.out.lt
  simp at m0 m1 n0 n1
  have hmk := (HBV.out.cell (p := ⟨b, off + m.nodes.length * 7, none⟩) hbw).trans hmark
  clear hmark hplain
  have k0 := cell_regrown (m0)
  have k1 := cell_regrown (m1)
  have j0 := cell_regrown (n0)
  have j1 := cell_regrown (n1)
  have k2 := cell_regrown (hmk)
  have CW := Lib.hid (fun (d : Nat) (os : Array Obj) => Calls.regrown_of (w := v) (d := d) (os := os) (HSM.out _ (HBV.out.trans ((below_regrown v d os).mono HBV.out.size))))
  clear m0 m1 n0 n1 hmk
  refine wp_region_quiet_below (by kernel_rfl) (by kernel_rfl) ?_
  repeat (first | go_big_quiet_step (exact CW.out _ _) | quiet_step (exact CW.out _ _))
  refine wpQuiet_nil ?_
  intro _ hw'
  obtain ⟨⟨dq, osq⟩, hw''⟩ := hw'
  subst hw''
  have HB1 := Lib.hid (HBV.out.trans ((below_regrown v dq osq).mono HBV.out.size))
  have HM1 := Lib.hid (HM.out.below (below_regrown v dq osq) hmlt)
  clear HBV HM HN HSM k0 k1 j0 j1 k2
  go_wp2_with fail
  go_loopg [5] m.nodes.length (fun g s5 wx => ∃ i : Nat, s5 = .int .i64 i ∧ g = m.nodes.length - i ∧ i ≤ m.nodes.length ∧ Below w.heap.size w wx ∧ Blk wx w.heap.size 24 #[.int .i64 m.next, .slice (some ⟨b, off, none⟩) m.nodes.length c])
  case atStart => exact ⟨0, rfl, rfl, Nat.zero_le _, HB1.out, HM1.out⟩
  case round =>
    clear HB1 HM1
    obtain ⟨i, rfl, rfl, hil, hb, hmb⟩ := hrel
    have HB := Lib.hid hb; have HM := Lib.hid hmb
    have m1 := hmb.cell 1
    have hmlt := hmb.lt
    have hsz := hb.size
    simp at m1
    clear hmb
    by_cases hlt : i < m.nodes.length
    · have hlt' : (i : Int) < m.nodes.length := by omega
      have i0 : (0 : Int) ≤ i := by omega
      obtain ⟨b1, off1, bp, op, cp, bk, ok, ck, br, or, cr, e', _, d0, d1, d2, d3, d4, d5, d6, ⟨p1, p2, p3, p4⟩, ⟨k1, k2, k3, k4⟩, ⟨r1, r2, r3, r4⟩⟩ := nodeM_at (hrow.keep ENodeM.stays (Keep.below hb hF) (F' := F) (fun _ h => h)) hlt
      injection e' with e'
      injection e' with e1 e2
      subst e1; subst e2
      have hbp := Nat.lt_of_lt_of_le (hF _ p3) hsz; have hbk := Nat.lt_of_lt_of_le (hF _ k3) hsz; have hbr := Nat.lt_of_lt_of_le (hF _ r3) hsz
      unfold maxLen at p2 k2 r2
      generalize hn : m.nodes[i] = n at *
      have x1 : IntKind.i64.wrap ((n.props.length : Int) + 1) = n.props.length + 1 := IntWalk.i64_in _ ⟨by omega, by omega⟩
      have y1 : IntKind.i64.wrap ((n.kids.length : Int) + 1) = n.kids.length + 1 := IntWalk.i64_in _ ⟨by omega, by omega⟩
      have z1 : IntKind.i64.wrap ((n.refs.length : Int) + 1) = n.refs.length + 1 := IntWalk.i64_in _ ⟨by omega, by omega⟩
      have x2 : (n.props.length : Int) + 1 ≤ cp := by omega
      have y2 : (n.kids.length : Int) + 1 ≤ ck := by omega
      have z2 : (n.refs.length : Int) + 1 ≤ cr := by omega
      have x3 : (0 : Int) ≤ (n.props.length : Int) + 1 := by omega
      have y3 : (0 : Int) ≤ (n.kids.length : Int) + 1 := by omega
      have z3 : (0 : Int) ≤ (n.refs.length : Int) + 1 := by omega
      have x4 : ((n.props.length : Int) + 1).toNat = n.props.length + 1 := by omega
      have y4 : ((n.kids.length : Int) + 1).toNat = n.kids.length + 1 := by omega
      have z4 : ((n.refs.length : Int) + 1).toNat = n.refs.length + 1 := by omega
      have x5 : (n.props.length : Int) < ((n.props.length + 1 : Nat) : Int) := by omega
      have y5 : (n.kids.length : Int) < ((n.kids.length + 1 : Nat) : Int) := by omega
      have z5 : (n.refs.length : Int) < ((n.refs.length + 1 : Nat) : Int) := by omega
      have x6 : n.props.length + 1 ≤ cp := by omega
      have y6 : n.kids.length + 1 ≤ ck := by omega
      have z6 : n.refs.length + 1 ≤ cr := by omega
      clear hb hrow' hn p1 k1 r1 g1 g2 g3 g4 g5 g6
      unfold markStr at p4 r4
      go_wp2_with fail
      go_quiet (fail)
      go_wp2
      go_roundg (m.nodes.length - (i + 1))
      case measure => omega
      case rel => exact ⟨i + 1, by go_num, rfl, by omega, below_drewN (HB.out.alloc hsz _) _, (HM.out.alloc _).drewN _⟩
    · have hlt' : decide ((i : Int) < m.nodes.length) = false := decide_eq_false (by omega)
      clear hb
      go_wp2
      go_ret
      exact ⟨rfl, HB.out⟩
end Go.Proofs.Ytmafhaadcjgcbaa
