import Derived.Test.YtmafhaadcjgcbaaAPlace
import Derived.Test.YtmafhaadcjgcbaaAIndex
import Derived.Test.YtmafhaadcjgcbaaAWordRef
import Derived.StillTailTactics
import Derived.Laws.MakeOwn
import Derived.Lib.QuietBelow
import Derived.Deep.DeepCutAuto
set_option linter.unusedSimpArgs false
set_option linter.unusedVariables false
section
namespace Go.Proofs.Ytmafhaadcjgcbaa
open Go Go.RowKit

set_option maxRecDepth 100000 in
set_option maxHeartbeats 1000000 in
theorem at_any (A : Option Addr) (c : Nat) (nx id : Int) (l : List ANode) (w : World) (F : Nat → Prop) (hF : ∀ b, F b → b < w.heap.size) (h : RowOf 7 ENode w F A l) (hs : Srt l) (hl : l.length ≤ 1048576) :
    Calls Try.prog 72 #[.agg #[.int .i64 nx, .slice A l.length c], .int .i64 id] w fun e w' => e = .returned (.int .i64 (atI l id)) ∧ Below w.heap.size w w' := by
  go_enter Try.func72, Try.ntmps72
  go_wp2
  go_quiet (fail)
  go_wp2
  go_loopg [5, 6, 7] l.length (fun g s5 s6 _ wx => ∃ lo hi : Nat, s5 = .int .i64 lo ∧ s6 = .int .i64 hi ∧ g = hi - lo ∧ Halves l id lo hi ∧ Below w.heap.size w wx ∧ Blk wx w.heap.size 24 #[.int .i64 nx, .slice A l.length c])
  case atStart => exact ⟨0, l.length, rfl, rfl, rfl, Halves.start l id, below_drewN ((Below.refl _ _).alloc (Nat.le_refl _) _) _, (Blk.new _ _ _).drewN _⟩
  case round =>
    obtain ⟨lo, hi, rfl, rfl, rfl, hv, hb, hx⟩ := hrel
    have hv1 := hv.1; have hv2 := hv.2.1
    have HV := Lib.hid hv; have HB := Lib.hid hb; have HX := Lib.hid hx
    have hx1 := hx.cell 1
    simp at hx1
    by_cases hlt : lo < hi
    · obtain ⟨m, hm⟩ : ∃ m, (lo + hi) / 2 = m := ⟨_, rfl⟩
      have hm1 : lo ≤ m := by omega
      have hm2 : m < hi := by omega
      have hml : m < l.length := by omega
      have hR := RowOf.keep ENode.stays (Keep.below hb hF) (F' := F) (fun _ h => h) h
      obtain ⟨b, off, Sp, cp, Sk, ck, Sr, cr, rfl, hbF, d0, _, _, _, _, _, _, _⟩ := node_at hR hml
      have Hm := Lib.hid hm
      clear hR hv hb hx hm
      have hlt' : (lo : Int) < hi := by omega
      have hm' : ((lo : Int) + hi) / 2 = m := by have := Hm.out; omega
      have m1 : (0 : Int) ≤ m := by omega
      have m2 : (m : Int) < l.length := by omega
      have m3 : (m : Int) ≤ 1048576 := by omega
      go_upto_region 4 with fail
      try simp only [hm']
      clear hm'
      by_cases hneg : l[m].id < id
      · have HU := Lib.hid (HV.out.up hs hm1 hm2 hml hneg)
        go_wp2
        go_roundg (hi - (m + 1))
        case measure => omega
        case rel => exact ⟨m + 1, hi, by go_num, rfl, rfl, HU.out, HB.out, HX.out⟩
      · have HU := Lib.hid (HV.out.down hs hm1 hm2 hml (by omega))
        have hneg' : id ≤ l[m].id := by omega
        go_wp2
        go_roundg (m - lo)
        case measure => omega
        case rel => exact ⟨lo, m, rfl, rfl, rfl, HU.out, HB.out, HX.out⟩
    · have e : hi = lo := by omega
      subst e
      have hlt' : ¬ (hi : Int) < hi := by omega
      by_cases hlo : hi < l.length
      · have hR := RowOf.keep ENode.stays (Keep.below hb hF) (F' := F) (fun _ h => h) h
        obtain ⟨b, off, Sp, cp, Sk, ck, Sr, cr, rfl, hbF, d0, _, _, _, _, _, _, _⟩ := node_at hR hlo
        have m1 : (0 : Int) ≤ hi := by omega
        have m2 : (hi : Int) < l.length := by omega
        clear hR hv hb hx
        by_cases he : l[hi].id = id
        · have HA := Lib.hid (atI_some hs hlo he)
          have he' : (l[hi].id == id) = true := beq_iff_eq.2 he
          clear he
          go_wp2
          go_ret
          exact ⟨by rw [HA.out]; rfl, HB.out⟩
        · have he' : (l[hi].id == id) = false := beq_eq_false_iff_ne.2 he
          have HA := Lib.hid (HV.out.no hs (fun _ => he))
          clear he
          go_wp2
          go_ret
          exact ⟨by rw [HA.out]; rfl, HB.out⟩
      · have HA := Lib.hid (HV.out.no hs (fun h => absurd h hlo))
        have hlo' : decide ((hi : Int) < l.length) = false := decide_eq_false (by omega)
        clear hv hb hx
        go_wp2
        go_ret
        exact ⟨by rw [HA.out]; rfl, HB.out⟩
end Go.Proofs.Ytmafhaadcjgcbaa
end
section
namespace Go.Proofs.Ytmafhaadcjgcbaa
open Go Go.RowKit

theorem same_flip {P : Program} {f : FuncId} {args : Array Value} {w : World} {v : Value} (h : Calls P f args w fun e w' => e = .returned v ∧ w = w') : Calls P f args w fun e w' => e = .returned v ∧ w' = w :=
  h.mono fun _ _ ⟨a, b⟩ => ⟨a, b.symm⟩
/-- the seven cells of a node, its lists wherever they lie -/
def NodeBlk (w : World) (g : Nat) (t : TypeId) (F : Nat → Prop) (n : ANode) : Prop :=
  ∃ Sp cp Sk ck Sr cr, Blk w g t #[.int .i64 n.id, .string n.concept, .int .i64 n.parent, .string n.role, .slice Sp n.props.length cp, .slice Sk n.kids.length ck, .slice Sr n.refs.length cr]
theorem NodeBlk.below {w w' : World} {g B : Nat} {t : TypeId} {F : Nat → Prop} {n : ANode} (h : NodeBlk w g t F n) (hb : Below B w w') (hg : g < B) : NodeBlk w' g t F n := by
  obtain ⟨a, b, c, d, e, f, h⟩ := h
  exact ⟨a, b, c, d, e, f, h.below hb hg⟩
theorem Blk.store7 {w : World} {g : Nat} {t : TypeId} {a0 a1 a2 a3 a4 a5 a6 b0 b1 b2 b3 b4 b5 b6 : Value} (h : Blk w g t #[a0, a1, a2, a3, a4, a5, a6]) :
    Blk (((((((w.setCell ⟨g, 0, none⟩ b0).setCell ⟨g, 1, none⟩ b1).setCell ⟨g, 2, none⟩ b2).setCell ⟨g, 3, none⟩ b3).setCell ⟨g, 4, none⟩ b4).setCell ⟨g, 5, none⟩ b5).setCell ⟨g, 6, none⟩ b6) g t #[b0, b1, b2, b3, b4, b5, b6] := by
  simpa using ((((((h.set_ 0 b0).set_ 1 b1).set_ 2 b2).set_ 3 b3).set_ 4 b4).set_ 5 b5).set_ 6 b6
theorem Blk.far7 {w : World} {g g' : Nat} {t : TypeId} {cs : Array Value} {b0 b1 b2 b3 b4 b5 b6 : Value} (h : Blk w g t cs) (hne : g ≠ g') :
    Blk (((((((w.setCell ⟨g', 0, none⟩ b0).setCell ⟨g', 1, none⟩ b1).setCell ⟨g', 2, none⟩ b2).setCell ⟨g', 3, none⟩ b3).setCell ⟨g', 4, none⟩ b4).setCell ⟨g', 5, none⟩ b5).setCell ⟨g', 6, none⟩ b6) g t cs :=
  ((((((h.far hne b0).far hne b1).far hne b2).far hne b3).far hne b4).far hne b5).far hne b6
theorem below_set7 {B : Nat} {a w : World} {g : Nat} {b0 b1 b2 b3 b4 b5 b6 : Value} (h : Below B a w) (hg : B ≤ g) :
    Below B a (((((((w.setCell ⟨g, 0, none⟩ b0).setCell ⟨g, 1, none⟩ b1).setCell ⟨g, 2, none⟩ b2).setCell ⟨g, 3, none⟩ b3).setCell ⟨g, 4, none⟩ b4).setCell ⟨g, 5, none⟩ b5).setCell ⟨g, 6, none⟩ b6) :=
  ((((((h.setCell (p := ⟨g, 0, none⟩) hg b0).setCell (p := ⟨g, 1, none⟩) hg b1).setCell (p := ⟨g, 2, none⟩) hg b2).setCell (p := ⟨g, 3, none⟩) hg b3).setCell (p := ⟨g, 4, none⟩) hg b4).setCell (p := ⟨g, 5, none⟩) hg b5).setCell (p := ⟨g, 6, none⟩) hg b6
open Classical in
noncomputable def belB (m : AModel) (n : ANode) : Bool := decide (Bel m 64 n)
open Classical in
theorem belB_root {m : AModel} {n x : ANode} {f : Nat} (h : Bel m 64 n ↔ Bel m (f + 1) x) (h0 : x.parent = 0) : belB m n = x.role.toList.isEmpty := by
  unfold belB
  have e : (Bel m (f + 1) x) ↔ x.role.toList.isEmpty = true := by
    rw [ByteArray.toList_eq, List.isEmpty_iff]
    constructor
    · rintro (⟨_, h1⟩ | ⟨h1, _⟩)
      · exact List.eq_nil_of_length_eq_zero h1
      · exact absurd h0 h1
    · intro h1
      refine .inl ⟨h0, ?_⟩
      have : x.role.data.toList.length = 0 := by rw [h1]; rfl
      exact this
  rw [Bool.eq_iff_iff, decide_eq_true_iff, h, e]
open Classical in
theorem belB_no {m : AModel} {n x : ANode} {f : Nat} (h : Bel m 64 n ↔ Bel m f x) (h0 : ¬ Bel m f x) : belB m n = false := decide_eq_false (fun e => h0 (h.1 e))
theorem bel_next {m : AModel} {n x y : ANode} {f : Nat} (hs : Srt m.nodes) (h : Bel m 64 n ↔ Bel m (f + 1) x) (h0 : x.parent ≠ 0) (hw : wordA x.role = true) (hy : y ∈ m.nodes) (e : y.id = x.parent) (hk : x.id ∈ y.kids) : Bel m 64 n ↔ Bel m f y := by
  rw [h]
  constructor
  · rintro (⟨h1, _⟩ | ⟨_, z, hz, e2, _, _, hb⟩)
    · exact absurd h1 h0
    · obtain ⟨i, hi, rfl⟩ := List.getElem_of_mem hy
      obtain ⟨j, hj, rfl⟩ := List.getElem_of_mem hz
      have := hs.inj hi hj (by omega)
      subst this; exact hb
  · intro hb
    exact .inr ⟨h0, y, hy, e, hw, hk, hb⟩
theorem bel_none {m : AModel} {x : ANode} {f : Nat} (h0 : x.parent ≠ 0) (hn : ∀ i (h : i < m.nodes.length), m.nodes[i].id ≠ x.parent) : ¬ Bel m (f + 1) x := by
  rintro (⟨h1, _⟩ | ⟨_, z, hz, e2, _⟩)
  · exact h0 h1
  · obtain ⟨j, hj, rfl⟩ := List.getElem_of_mem hz
    exact hn j hj e2
theorem bel_noword {m : AModel} {x : ANode} {f : Nat} (h0 : x.parent ≠ 0) (hw : wordA x.role = false) : ¬ Bel m (f + 1) x := by
  rintro (⟨h1, _⟩ | ⟨_, z, hz, e2, h3, _⟩)
  · exact h0 h1
  · rw [hw] at h3; cases h3
theorem bel_nokid {m : AModel} {x y : ANode} {f : Nat} (hs : Srt m.nodes) (h0 : x.parent ≠ 0) (hy : y ∈ m.nodes) (e : y.id = x.parent) (hk : x.id ∉ y.kids) : ¬ Bel m (f + 1) x := by
  rintro (⟨h1, _⟩ | ⟨_, z, hz, e2, _, h3, _⟩)
  · exact h0 h1
  · obtain ⟨i, hi, rfl⟩ := List.getElem_of_mem hy
    obtain ⟨j, hj, rfl⟩ := List.getElem_of_mem hz
    have := hs.inj hi hj (by omega)
    subst this; exact hk h3

theorem word_is {s : ByteArray} {b : Bool} (hs : s.size ≤ 9223372036854775807) (h : wordA s = b) (w : World) : Calls Try.prog 17 #[.string s] w fun e w' => e = .returned (.bool b) ∧ w = w' := by
  have := refWord_any s hs w
  rw [h] at this; exact this
theorem has_is {f : FuncId} {args : Array Value} {w : World} {p b : Bool} (h : p = b) (hc : Calls Try.prog f args w fun e w' => e = .returned (.bool p) ∧ w = w') : Calls Try.prog f args w fun e w' => e = .returned (.bool b) ∧ w = w' := by
  rw [h] at hc; exact hc

set_option maxRecDepth 100000 in
set_option maxHeartbeats 600000 in
theorem below_any (A : Option Addr) (c : Nat) (m : AModel) (n : ANode) (Sp Sk Sr : Option Addr) (cp ck cr : Nat) (w : World) (F : Nat → Prop) (hF : ∀ b, F b → b < w.heap.size) (h : RowOf 7 ENode w F A m.nodes) (hs : Srt m.nodes) (hl : m.nodes.length ≤ 1048576)
    (hz : ∀ x ∈ m.nodes, x.role.size ≤ 9223372036854775807) (hn : n ∈ m.nodes) :
    Calls Try.prog 110 #[.agg #[.int .i64 m.next, .slice A m.nodes.length c], .agg #[.int .i64 n.id, .string n.concept, .int .i64 n.parent, .string n.role, .slice Sp n.props.length cp, .slice Sk n.kids.length ck, .slice Sr n.refs.length cr]] w
      fun e w' => e = .returned (.bool (belB m n)) ∧ Below w.heap.size w w' := by
  go_enter Try.func110, Try.ntmps110
  go_wp2
  go_loopg [5, 6] 65 (fun g s5 _ wx => ∃ (f d : Nat) (x : ANode), g = f + 1 ∧ d + f = 65 ∧ s5 = .int .i64 d ∧ x ∈ m.nodes ∧ (Bel m 64 n ↔ Bel m f x) ∧ Below w.heap.size w wx ∧ Blk wx w.heap.size 24 #[.int .i64 m.next, .slice A m.nodes.length c] ∧ NodeBlk wx (w.heap.size + 1) 38 F x)
  case atStart => exact ⟨64, 1, n, rfl, rfl, rfl, hn, Iff.rfl, ((Below.refl _ _).alloc (Nat.le_refl _) _).alloc (by simp) _, (Blk.new _ _ _).alloc _, _, _, _, _, _, _, Blk.new' (by simp)⟩
  case round =>
    obtain ⟨f, d, x, rfl, hf, rfl, hx, hB, hb, hm, hx7⟩ := hrel
    have hd1 : d ≤ 65 := by omega
    have Hf := Lib.hid hf; clear hf
    have HB := Lib.hid hb; have HM := Lib.hid hm; have HX := Lib.hid hx7; have HE := Lib.hid hB
    have hmz := hm.cell 1; have hmy := hm.cell 0
    have hmlt := hm.lt
    obtain ⟨_, _, _, _, _, _, hx7⟩ := hx7
    have hxlt := hx7.lt
    have x0 := hx7.cell 0; have x2 := hx7.cell 2; have x3 := hx7.cell 3
    have z0 := hx7.frozen 0; have z1 := hx7.frozen 1; have z2 := hx7.frozen 2; have z3 := hx7.frozen 3; have z4 := hx7.frozen 4; have z5 := hx7.frozen 5; have z6 := hx7.frozen 6
    simp at hmz hmy x0 x2 x3
    have hxs := hz x hx
    clear hB hb hm hx7
    by_cases hf0 : f = 0
    · subst hf0
      have hd2 : (64 : Int) < d := by have := Hf.out; omega
      have E := Lib.hid (belB_no HE.out (fun h => h))
      go_wp2
      go_ret
      exact ⟨by rw [E.out]; rfl, HB.out⟩
    · obtain ⟨f, rfl⟩ : ∃ f', f = f' + 1 := ⟨f - 1, by omega⟩
      have hd2 : (d : Int) ≤ 64 := by have := Hf.out; omega
      clear hf0
      cases hp0 : (x.parent == 0)
      · have hp1 : x.parent ≠ 0 := beq_eq_false_iff_ne.1 hp0
        have HP := Lib.hid hp1; clear hp1
        go_wp2_with fail
        refine (at_any A c _ _ m.nodes _ F (fun b hb => Nat.lt_of_lt_of_le (hF b hb) HB.out.size) (h.keep ENode.stays (Keep.below HB.out hF) (fun _ h => h)) hs hl).mono ?_
        rintro _ w1 ⟨rfl, hb1⟩
        have HB1 := Lib.hid (HB.out.trans (hb1.mono HB.out.size))
        have HM1 := Lib.hid (HM.out.below hb1 hmlt)
        have hmz := HM1.out.cell 1
        obtain ⟨_, _, _, _, _, _, hx7⟩ := HX.out
        have hx7 := hx7.below hb1 hxlt
        have hxlt1 := hx7.lt
        have x0 := hx7.cell 0; have x2 := hx7.cell 2; have x3 := hx7.cell 3
        have z0 := hx7.frozen 0; have z1 := hx7.frozen 1; have z2 := hx7.frozen 2; have z3 := hx7.frozen 3; have z4 := hx7.frozen 4; have z5 := hx7.frozen 5; have z6 := hx7.frozen 6
        have x1 := hx7.cell 1; have x4 := hx7.cell 4; have x5 := hx7.cell 5; have x6 := hx7.cell 6
        simp at hmz x0 x1 x2 x3 x4 x5 x6
        have HX7 := Lib.hid hx7
        clear hb1 hx7
        rcases atI_cases m.nodes x.parent with ⟨k, hk, hk1, hk2⟩ | ⟨hk1, hk2⟩
        · rw [hk2]
          have hk0 : (0 : Int) ≤ k := by omega
          have hk0' : decide ((k : Int) < 0) = false := decide_eq_false (by omega)
          have hk3 : (k : Int) < m.nodes.length := by omega
          have hR := RowOf.keep ENode.stays (Keep.below HB1.out hF) (F' := F) (fun _ h => h) h
          obtain ⟨b, off, Sp', cp', Sk', ck', Sr', cr', rfl, hbF, d0, d1, d2, d3, d4, d5, d6, _, ⟨hc1, hc2, hrow⟩, _⟩ := node_at hR hk
          have HK1 := Lib.hid hk1
          unfold maxLen at hc2
          clear hk1 hk2 hR
          cases hw : wordA x.role
          · have E := Lib.hid (belB_no HE.out (bel_noword HP.out hw))
            have HWD := Lib.hid (fun w0 => same_flip (word_is hxs hw w0))
            clear hw
            go_wp2
            go_quiet ((go_at_call 17; exact Calls.quiet_of_same (HWD.out _)))
            go_wp2
            go_ret
            exact ⟨by rw [E.out]; rfl, below_drewN HB1.out _⟩
          · have HWD := Lib.hid (fun w0 => same_flip (word_is hxs hw w0))
            have hsz1 := HB1.out.size
            have hrow' := fun nq => hrow.keep (F' := F) EInt.stays (Keep.drewN F w1 nq) (fun _ h => h)
            have HROW := Lib.hid hrow'
            clear hrow hrow'
            by_cases hmem : x.id ∈ m.nodes[k].kids
            · have hdec : decide (x.id ∈ m.nodes[k].kids) = true := decide_eq_true hmem
              have HN := Lib.hid (bel_next hs HE.out HP.out hw (List.getElem_mem hk) HK1.out hmem)
              have HHD := Lib.hid (fun nq => same_flip (has_is hdec (has_any Sk' ck' m.nodes[k].kids x.id _ F (HROW.out nq) (by omega))))
              clear hmem hdec hw
              go_wp2
              go_quiet ((first | (go_at_call 17; exact Calls.quiet_of_same (HWD.out _)) | (go_at_call 100; exact Calls.quiet_of_same (HHD.out _))))
              go_wp2
              go_roundg (f + 1)
              case measure => omega
              case rel => exact ⟨f, d + 1, m.nodes[k], rfl, by have := Hf.out; omega, by go_num, List.getElem_mem hk, HN.out, below_set7 (below_drewN HB1.out _) (Nat.le_succ _), Blk.far7 (HM1.out.drewN _) (by omega), _, _, _, _, _, _, (HX7.out.drewN _).store7⟩
            · have hdec : decide (x.id ∈ m.nodes[k].kids) = false := decide_eq_false hmem
              have E := Lib.hid (belB_no HE.out (bel_nokid hs HP.out (List.getElem_mem hk) HK1.out hmem))
              have HHD := Lib.hid (fun nq => same_flip (has_is hdec (has_any Sk' ck' m.nodes[k].kids x.id _ F (HROW.out nq) (by omega))))
              clear hmem hdec hw
              go_wp2
              go_quiet ((first | (go_at_call 17; exact Calls.quiet_of_same (HWD.out _)) | (go_at_call 100; exact Calls.quiet_of_same (HHD.out _))))
              go_wp2
              go_ret
              exact ⟨by rw [E.out]; rfl, below_drewN HB1.out _⟩
        · rw [hk2]
          have E := Lib.hid (belB_no HE.out (bel_none HP.out hk1))
          clear hk1 hk2
          go_wp2
          go_quiet (fail)
          go_wp2
          go_ret
          exact ⟨by rw [E.out]; rfl, below_drewN HB1.out _⟩
      · have hp1 : x.parent = 0 := beq_iff_eq.1 hp0
        have E := Lib.hid (belB_root HE.out hp1)
        clear hp1
        go_wp2
        go_ret
        exact ⟨by rw [E.out]; rfl, HB.out⟩
end Go.Proofs.Ytmafhaadcjgcbaa
end
section
namespace Go.Proofs.Ytmafhaadcjgcbaa
open Go Go.RowKit

theorem bool_info : (Try.prog.info? 4).map (fun i => (i.zero, i.size, i.bytes)) = some (some (.bool false), 1, 1) := by kernel_rfl
open Classical in
noncomputable def plainB (m : AModel) (n : ANode) : Bool := decide (Plain m n)
open Classical in
theorem plainB_no {m : AModel} {n : ANode} (h : ¬ Plain m n) : plainB m n = false := decide_eq_false h
open Classical in
theorem plainB_yes {m : AModel} {n : ANode} (h : Plain m n) : plainB m n = true := decide_eq_true h
def PropsTo (l : List AProp) (k : Nat) : Prop := ∀ j, j < k → PropAt l j
theorem PropsTo.next {l : List AProp} {k : Nat} (h : PropsTo l k) (hk : PropAt l k) : PropsTo l (k + 1) := fun j hj => by
  rcases Nat.lt_succ_iff_lt_or_eq.1 hj with h' | h'
  · exact h j h'
  · subst h'; exact hk
theorem PropsTo.all {l : List AProp} {k : Nat} (h : PropsTo l k) (hk : ¬ k < l.length) : PropsOK l := fun i hi => h i (by omega) hi
def RefsTo (nx : Int) (l : List ARef) (k : Nat) : Prop := ∀ j, j < k → RefAt nx l j
theorem RefsTo.next {nx : Int} {l : List ARef} {k : Nat} (h : RefsTo nx l k) (hk : RefAt nx l k) : RefsTo nx l (k + 1) := fun j hj => by
  rcases Nat.lt_succ_iff_lt_or_eq.1 hj with h' | h'
  · exact h j h'
  · subst h'; exact hk
theorem RefsTo.all {nx : Int} {l : List ARef} {k : Nat} (h : RefsTo nx l k) (hk : ¬ k < l.length) : RefsOK nx l := fun i hi => h i (by omega) hi

/-- which nodes have been met -/
def MetB (w : World) (g : Nat) (l : List Bool) : Prop := Blk w g 4 (l.map Value.bool).toArray
theorem MetB.cell {w : World} {g : Nat} {l : List Bool} (h : MetB w g l) {i : Nat} (hi : i < l.length) : w.cell? ⟨g, i, none⟩ = some (.bool l[i]) := by
  rw [Blk.cell h i]; simp [hi]
theorem MetB.set_ {w : World} {g : Nat} {l : List Bool} (h : MetB w g l) (i : Nat) (b : Bool) : MetB (w.setCell ⟨g, i, none⟩ (.bool b)) g (l.set i b) := by
  have := Blk.set_ h i (.bool b)
  unfold MetB
  rw [List.map_set]
  simpa using this
theorem MetB.made (w : World) (k : Nat) : MetB (w.alloc (.cells (madeCells #[.bool false] k) 4)) w.heap.size (List.replicate k false) := by
  have e : madeCells #[.bool false] k = ((List.replicate k false).map Value.bool).toArray := by
    unfold madeCells
    apply Array.ext
    · simp
    · intro i h1 h2
      simp [Nat.mod_one]
  unfold MetB
  rw [← e]; exact Blk.new _ _ _
/-- what is known of the kids ahead of k -/
structure KidsTo (m : AModel) (n : ANode) (k : Nat) (ml : List Bool) : Prop where
  len : ml.length = m.nodes.length
  met : ∀ i (h : i < ml.length) (h' : i < m.nodes.length), ml[i] = true ↔ m.nodes[i].id ∈ n.kids.take k
  at_ : ∀ x ∈ n.kids.take k, KidAt m n.id x
  nodup : (n.kids.take k).Nodup
theorem KidsTo.start (m : AModel) (n : ANode) : KidsTo m n 0 (List.replicate m.nodes.length false) := ⟨by simp, by simp, by simp, by simp⟩
theorem KidsTo.next {m : AModel} {n : ANode} {k i : Nat} {ml : List Bool} (h : KidsTo m n k ml) (hs : Srt m.nodes) (hk : k < n.kids.length) (hi : i < m.nodes.length) (e : m.nodes[i].id = n.kids[k]) (hp : m.nodes[i].parent = n.id) (hm : ml[i]'(by rw [h.len]; exact hi) = false) : KidsTo m n (k + 1) (ml.set i true) := by
  have hl := h.len
  have et : n.kids.take (k + 1) = n.kids.take k ++ [n.kids[k]] := List.take_succ_eq_append_getElem hk
  refine ⟨by simpa using hl, fun j hj hj' => ?_, fun x hx => ?_, ?_⟩
  · rw [et, List.mem_append, List.mem_singleton, ← e]
    by_cases hij : i = j
    · subst hij; simp
    · rw [List.getElem_set_ne hij, h.met j (by omega) hj']
      constructor
      · exact .inl
      · rintro (h1 | h1)
        · exact h1
        · exact absurd (hs.inj hj' hi h1).symm hij
  · rw [et] at hx
    rcases List.mem_append.1 hx with hx | hx
    · exact h.at_ x hx
    · simp at hx; subst hx
      exact ⟨m.nodes[i], List.getElem_mem hi, e, hp⟩
  · rw [et, List.nodup_append]
    refine ⟨h.nodup, by simp, fun a ha b hb => ?_⟩
    simp at hb; subst hb
    intro e2
    subst e2
    have := (h.met i (by omega) hi).2 (by rw [e]; exact ha)
    rw [hm] at this; cases this
theorem KidsTo.twice {m : AModel} {n : ANode} {k i : Nat} {ml : List Bool} (h : KidsTo m n k ml) (hk : k < n.kids.length) (hi : i < m.nodes.length) (e : m.nodes[i].id = n.kids[k]) (hm : ml[i]'(by rw [h.len]; exact hi) = true) : ¬ n.kids.Nodup := by
  intro hd
  have h1 := (h.met i (by rw [h.len]; exact hi) hi).1 hm
  rw [e] at h1
  obtain ⟨j, hj, e2⟩ := List.getElem_of_mem h1
  have hj' : j < k := by have := hj; rw [List.length_take] at this; omega
  rw [List.getElem_take] at e2
  have := (List.pairwise_iff_getElem.1 (List.nodup_iff_pairwise_ne.1 hd)) j k (by omega) hk hj'
  exact this e2
theorem kid_not {m : AModel} {n : ANode} {k i : Nat} (hs : Srt m.nodes) (hk : k < n.kids.length) (hi : i < m.nodes.length) (e : m.nodes[i].id = n.kids[k]) (hp : m.nodes[i].parent ≠ n.id) : ¬ KidsAt m n := by
  intro h
  obtain ⟨x, hx, e1, e2⟩ := h n.kids[k] (List.getElem_mem hk)
  obtain ⟨j, hj, rfl⟩ := List.getElem_of_mem hx
  have := hs.inj hi hj (by omega)
  subst this; exact hp e2
theorem kid_none {m : AModel} {n : ANode} {k : Nat} (hk : k < n.kids.length) (h : ∀ i (h : i < m.nodes.length), m.nodes[i].id ≠ n.kids[k]) : ¬ KidsAt m n := by
  intro h2
  obtain ⟨x, hx, e1, e2⟩ := h2 n.kids[k] (List.getElem_mem hk)
  obtain ⟨j, hj, rfl⟩ := List.getElem_of_mem hx
  exact h j hj e1

set_option maxRecDepth 100000 in
set_option maxHeartbeats 2000000 in
theorem plain_any (A : Option Addr) (c : Nat) (m : AModel) (n : ANode) (Sp Sk Sr : Option Addr) (cp ck cr : Nat) (w : World) (F : Nat → Prop) (hF : ∀ b, F b → b < w.heap.size) (h : RowOf 7 ENode w F A m.nodes) (hs : Srt m.nodes) (hl : m.nodes.length ≤ 1048576)
    (hp : RowOf 2 EProp w F Sp n.props) (hk : RowOf 1 EInt w F Sk n.kids) (hr : RowOf 2 ERef w F Sr n.refs) (lp : n.props.length ≤ 9223372036854775807) (lk : n.kids.length ≤ 9223372036854775807) (lr : n.refs.length ≤ 9223372036854775807)
    (zc : n.concept.size ≤ 9223372036854775807) (zp : ∀ x ∈ n.props, x.name.size ≤ 9223372036854775807 ∧ x.value.size ≤ 9223372036854775807) (zr : ∀ x ∈ n.refs, x.role.size ≤ 9223372036854775807) :
    Calls Try.prog 109 #[.agg #[.int .i64 m.next, .slice A m.nodes.length c], .agg #[.int .i64 n.id, .string n.concept, .int .i64 n.parent, .string n.role, .slice Sp n.props.length cp, .slice Sk n.kids.length ck, .slice Sr n.refs.length cr]] w
      fun e w' => e = .returned (.bool (plainB m n)) ∧ Below w.heap.size w w' := by
  have hmk : ∀ w0, (Instr.makeSlice 75 (.int .i64 m.nodes.length) (.int .i64 m.nodes.length)).run Try.prog w0 = .ok (.slice (some ⟨w0.heap.size, 0, none⟩) m.nodes.length m.nodes.length) (w0.alloc (.cells (madeCells #[.bool false] m.nodes.length) 4)) := by
    intro w0
    obtain ⟨i, hi, hz, hsize, hby⟩ := info_parts bool_info
    have := run_make (P := Try.prog) w0 75 4 i (.bool false) Try.underlying75 hi hz .i64 .i64 m.nodes.length m.nodes.length (by omega) (by omega) (by rw [hby]; omega) (by omega)
    rw [hsize] at this
    simpa [Value.cells] using this
  go_enter Try.func109, Try.ntmps109
  cases hwc : wordA n.concept
  · have E := Lib.hid (plainB_no (m := m) (n := n) (fun h => by rw [h.1] at hwc; cases hwc))
    have HWD := Lib.hid (fun w0 => word_is zc hwc w0)
    clear hwc
    go_wp2_with fail
    refine (HWD.out _).mono ?_
    rintro _ _ ⟨rfl, rfl⟩
    go_wp2
    go_ret
    exact ⟨by rw [E.out]; rfl, ((Below.refl _ _).alloc (Nat.le_refl _) _).alloc (by simp) _⟩
  · have HWD := Lib.hid (fun w0 => word_is zc hwc w0)
    have HC := Lib.hid hwc
    clear hwc
    go_wp2_with fail
    refine (HWD.out _).mono ?_
    rintro _ _ ⟨rfl, rfl⟩
    by_cases hkl : n.kids.length ≤ m.nodes.length
    · have hkl' : decide (m.nodes.length < n.kids.length) = false := decide_eq_false (by omega)
      go_wp2_with fail
      go_loopg [5] n.props.length (fun g s5 wx => ∃ k : Nat, s5 = .int .i64 k ∧ g = n.props.length - k ∧ k ≤ n.props.length ∧ Below w.heap.size w wx ∧ Blk wx w.heap.size 24 #[.int .i64 m.next, .slice A m.nodes.length c] ∧ Blk wx (w.heap.size + 1) 38 #[.int .i64 n.id, .string n.concept, .int .i64 n.parent, .string n.role, .slice Sp n.props.length cp, .slice Sk n.kids.length ck, .slice Sr n.refs.length cr] ∧ PropsTo n.props k)
      case atStart => exact ⟨0, rfl, rfl, Nat.zero_le _, ((Below.refl _ _).alloc (Nat.le_refl _) _).alloc (by simp) _, (Blk.new _ _ _).alloc _, Blk.new' (by simp), fun j hj => absurd hj (Nat.not_lt_zero _)⟩
      case round =>
        obtain ⟨k, rfl, rfl, hkk, hb, hmb, hnb, hall⟩ := hrel
        have HB := Lib.hid hb; have HM := Lib.hid hmb; have HN := Lib.hid hnb; have HA := Lib.hid hall
        have m0 := hmb.cell 0; have m1 := hmb.cell 1
        have n0 := hnb.cell 0; have n4 := hnb.cell 4; have n5 := hnb.cell 5; have n6 := hnb.cell 6
        have hmlt := hmb.lt; have hnlt := hnb.lt
        simp at m0 m1 n0 n4 n5 n6
        clear hmb hnb hall
        by_cases hlt : k < n.props.length
        · have hlt' : (k : Int) < n.props.length := by omega
          have k0 : (0 : Int) ≤ k := by omega
          have hR := RowOf.keep EProp.stays (Keep.below hb hF) (F' := F) (fun _ h => h) hp
          obtain ⟨b, off, rfl, hbF, d0, d1⟩ := prop_at hR hlt
          have hzz := (zp n.props[k] (List.getElem_mem hlt)).1
          have HR := Lib.hid hR
          clear hR hb
          cases hw : wordA n.props[k].name
          · have HWD := Lib.hid (fun w0 => word_is hzz hw w0)
            have E := Lib.hid (plainB_no (m := m) (n := n) (fun h => by have := (h.2.2.1 k hlt).1; rw [hw] at this; cases this))
            clear hw
            go_wp2
            go_quiet ((go_at_call 17; exact Calls.quiet_of_same (same_flip (HWD.out _))))
            go_wp2
            go_ret
            exact ⟨by rw [E.out]; rfl, below_drewN HB.out _⟩
          · have HWD := Lib.hid (fun w0 => word_is hzz hw w0)
            have HW := Lib.hid hw
            clear hw
            by_cases hv : n.props[k].value.size ≤ 4096
            · have hv' : decide ((4096 : Int) < n.props[k].value.size) = false := decide_eq_false (by omega)
              by_cases hk0 : k = 0
              · subst hk0
                have g0 : decide ((0 : Int) < ((0 : Nat) : Int)) = false := by decide
                simp only [Nat.zero_mul, Nat.add_zero, Nat.zero_add] at d0 d1
                have g2 : (0 : Int) < n.props.length := by omega
                have HP := Lib.hid (show PropAt n.props _ from fun _ => ⟨HW.out, hv, fun h => absurd h (by omega)⟩)
                go_wp2
                go_quiet ((go_at_call 17; exact Calls.quiet_of_same (same_flip (HWD.out _))))
                go_wp2
                go_roundg (n.props.length - (0 + 1))
                case measure => omega
                case rel => exact ⟨0 + 1, by go_num, rfl, by omega, below_drewN HB.out _, HM.out.drewN _, HN.out.drewN _, HA.out.next HP.out⟩
              · obtain ⟨i, rfl⟩ : ∃ i, k = i + 1 := ⟨k - 1, by omega⟩
                obtain ⟨b', off', e', _, d2, _⟩ := prop_at HR.out (show i < n.props.length by omega)
                injection e' with e'
                injection e' with e1 e2
                subst e1; subst e2
                have q1 : IntKind.i64.wrap (((i + 1 : Nat) : Int) - 1) = i := by rw [IntWalk.i64_in _ ⟨by omega, by omega⟩]; omega
                have q2 : (i : Int) < n.props.length := by omega
                have q3 : (0 : Int) ≤ i := by omega
                have q4 : (0 : Int) < ((i + 1 : Nat) : Int) := by omega
                have q7 : (i : Int) + 1 < n.props.length := by omega
                have q8 : (0 : Int) ≤ (i : Int) + 1 := by omega
                have q9 : ((i : Int) + 1).toNat = i + 1 := by omega
                have q5 : (0 : Int) < (i : Int) + 1 := by omega
                have q6 : IntKind.i64.wrap ((i : Int) + 1 - 1) = i := by rw [IntWalk.i64_in _ ⟨by omega, by omega⟩]; omega
                cases hg : Op.bytesLess n.props[i].name.toList n.props[i + 1].name.toList
                · have E := Lib.hid (plainB_no (m := m) (n := n) (fun h => by have := (h.2.2.1 (i + 1) hlt).2.2 (by omega); simp [geS, hg] at this))
                  go_wp2
                  go_quiet ((go_at_call 17; exact Calls.quiet_of_same (same_flip (HWD.out _))))
                  go_wp2
                  go_ret
                  exact ⟨by rw [E.out]; rfl, below_drewN HB.out _⟩
                · have HP := Lib.hid (show PropAt n.props _ from fun _ => ⟨HW.out, hv, fun _ => by simp [geS, hg]⟩)
                  go_wp2
                  go_quiet ((go_at_call 17; exact Calls.quiet_of_same (same_flip (HWD.out _))))
                  go_wp2
                  go_roundg (n.props.length - (i + 1 + 1))
                  case measure => omega
                  case rel => exact ⟨i + 1 + 1, by go_num, rfl, by omega, below_drewN HB.out _, HM.out.drewN _, HN.out.drewN _, HA.out.next HP.out⟩
            · have hv' : (4096 : Int) < n.props[k].value.size := by omega
              have E := Lib.hid (plainB_no (m := m) (n := n) (fun h => hv (h.2.2.1 k hlt).2.1))
              go_wp2
              go_quiet ((go_at_call 17; exact Calls.quiet_of_same (same_flip (HWD.out _))))
              go_wp2
              go_ret
              exact ⟨by rw [E.out]; rfl, below_drewN HB.out _⟩
        · have hlt' : decide ((k : Int) < n.props.length) = false := decide_eq_false (by omega)
          have HALL := Lib.hid (PropsTo.all HA.out hlt)
          clear hb
          have HPROPS := Lib.hid HALL.out
          obtain ⟨wp, rfl⟩ : ∃ wp : World, wp = wr := ⟨_, rfl⟩
          go_wp2_with fail
          clear HALL HA m0 m1 n0 n4 n5 n6 hmlt hnlt hkk hlt hlt'
          go_loopg [6] n.refs.length (fun g s5 wx => ∃ k : Nat, s5 = .int .i64 k ∧ g = n.refs.length - k ∧ k ≤ n.refs.length ∧ Below w.heap.size w wx ∧ Blk wx w.heap.size 24 #[.int .i64 m.next, .slice A m.nodes.length c] ∧ Blk wx (w.heap.size + 1) 38 #[.int .i64 n.id, .string n.concept, .int .i64 n.parent, .string n.role, .slice Sp n.props.length cp, .slice Sk n.kids.length ck, .slice Sr n.refs.length cr] ∧ RefsTo m.next n.refs k)
          case atStart => exact ⟨0, rfl, rfl, Nat.zero_le _, HB.out, HM.out, HN.out, fun j hj => absurd hj (Nat.not_lt_zero _)⟩
          case round =>
            obtain ⟨k, rfl, rfl, hkk, hb, hmb, hnb, hall⟩ := hrel
            have HB := Lib.hid hb; have HM := Lib.hid hmb; have HN := Lib.hid hnb; have HA := Lib.hid hall
            have m0 := hmb.cell 0; have m1 := hmb.cell 1
            have n0 := hnb.cell 0; have n4 := hnb.cell 4; have n5 := hnb.cell 5; have n6 := hnb.cell 6
            have hmlt := hmb.lt; have hnlt := hnb.lt
            simp at m0 m1 n0 n4 n5 n6
            clear hmb hnb hall
            by_cases hlt : k < n.refs.length
            · have hlt' : (k : Int) < n.refs.length := by omega
              have k0 : (0 : Int) ≤ k := by omega
              have hR := RowOf.keep ERef.stays (Keep.below hb hF) (F' := F) (fun _ h => h) hr
              obtain ⟨b, off, rfl, hbF, d0, d1⟩ := ref_at hR hlt
              have hzz := zr n.refs[k] (List.getElem_mem hlt)
              have HR := Lib.hid hR
              clear hR hb
              cases hw : wordA n.refs[k].role
              · have HWD := Lib.hid (fun w0 => word_is hzz hw w0)
                have E := Lib.hid (plainB_no (m := m) (n := n) (fun h => by have := (h.2.2.2.1 k hlt).1; rw [hw] at this; cases this))
                clear hw
                go_wp2
                go_quiet ((go_at_call 17; exact Calls.quiet_of_same (same_flip (HWD.out _))))
                go_wp2
                go_ret
                exact ⟨by rw [E.out]; rfl, below_drewN HB.out _⟩
              · have HWD := Lib.hid (fun w0 => word_is hzz hw w0)
                have HW := Lib.hid hw
                clear hw
                by_cases hv : 1 ≤ n.refs[k].target
                · have hv' : decide (n.refs[k].target < 1) = false := decide_eq_false (by omega)
                  by_cases hu : n.refs[k].target < m.next
                  · have hu' : decide (m.next ≤ n.refs[k].target) = false := decide_eq_false (by omega)
                    by_cases hk0 : k = 0
                    · subst hk0
                      have g0 : decide ((0 : Int) < ((0 : Nat) : Int)) = false := by decide
                      simp only [Nat.zero_mul, Nat.add_zero, Nat.zero_add] at d0 d1
                      have g2 : (0 : Int) < n.refs.length := by omega
                      have HP := Lib.hid (show RefAt m.next n.refs _ from fun _ => ⟨HW.out, hv, hu, fun h => absurd h (by omega)⟩)
                      go_wp2
                      go_quiet ((go_at_call 17; exact Calls.quiet_of_same (same_flip (HWD.out _))))
                      go_wp2
                      go_roundg (n.refs.length - (0 + 1))
                      case measure => omega
                      case rel => exact ⟨0 + 1, by go_num, rfl, by omega, below_drewN HB.out _, HM.out.drewN _, HN.out.drewN _, HA.out.next HP.out⟩
                    · obtain ⟨i, rfl⟩ : ∃ i, k = i + 1 := ⟨k - 1, by omega⟩
                      obtain ⟨b', off', e', _, d2, _⟩ := ref_at HR.out (show i < n.refs.length by omega)
                      injection e' with e'
                      injection e' with e1 e2
                      subst e1; subst e2
                      have q1 : IntKind.i64.wrap (((i + 1 : Nat) : Int) - 1) = i := by rw [IntWalk.i64_in _ ⟨by omega, by omega⟩]; omega
                      have q2 : (i : Int) < n.refs.length := by omega
                      have q3 : (0 : Int) ≤ i := by omega
                      have q4 : (0 : Int) < ((i + 1 : Nat) : Int) := by omega
                      have q7 : (i : Int) + 1 < n.refs.length := by omega
                      have q8 : (0 : Int) ≤ (i : Int) + 1 := by omega
                      have q9 : ((i : Int) + 1).toNat = i + 1 := by omega
                      have q5 : (0 : Int) < (i : Int) + 1 := by omega
                      have q6 : IntKind.i64.wrap ((i : Int) + 1 - 1) = i := by rw [IntWalk.i64_in _ ⟨by omega, by omega⟩]; omega
                      cases hg : Op.bytesLess n.refs[i].role.toList n.refs[i + 1].role.toList
                      · have E := Lib.hid (plainB_no (m := m) (n := n) (fun h => by have := (h.2.2.2.1 (i + 1) hlt).2.2.2 (by omega); simp [geS, hg] at this))
                        go_wp2
                        go_quiet ((go_at_call 17; exact Calls.quiet_of_same (same_flip (HWD.out _))))
                        go_wp2
                        go_ret
                        exact ⟨by rw [E.out]; rfl, below_drewN HB.out _⟩
                      · have HP := Lib.hid (show RefAt m.next n.refs _ from fun _ => ⟨HW.out, hv, hu, fun _ => by simp [geS, hg]⟩)
                        go_wp2
                        go_quiet ((go_at_call 17; exact Calls.quiet_of_same (same_flip (HWD.out _))))
                        go_wp2
                        go_roundg (n.refs.length - (i + 1 + 1))
                        case measure => omega
                        case rel => exact ⟨i + 1 + 1, by go_num, rfl, by omega, below_drewN HB.out _, HM.out.drewN _, HN.out.drewN _, HA.out.next HP.out⟩
                  · have hu' : m.next ≤ n.refs[k].target := by omega
                    have E := Lib.hid (plainB_no (m := m) (n := n) (fun h => hu (h.2.2.2.1 k hlt).2.2.1))
                    go_wp2
                    go_quiet ((go_at_call 17; exact Calls.quiet_of_same (same_flip (HWD.out _))))
                    go_wp2
                    go_ret
                    exact ⟨by rw [E.out]; rfl, below_drewN HB.out _⟩
                · have hv' : n.refs[k].target < 1 := by omega
                  have E := Lib.hid (plainB_no (m := m) (n := n) (fun h => hv (h.2.2.2.1 k hlt).2.1))
                  go_wp2
                  go_quiet ((go_at_call 17; exact Calls.quiet_of_same (same_flip (HWD.out _))))
                  go_wp2
                  go_ret
                  exact ⟨by rw [E.out]; rfl, below_drewN HB.out _⟩
            · have hlt' : decide ((k : Int) < n.refs.length) = false := decide_eq_false (by omega)
              have HALL := Lib.hid (RefsTo.all HA.out hlt)
              clear hb
              have HREFS := Lib.hid HALL.out
              go_wp2_with fail
              clear HA HALL m0 m1 n0 n4 n5 n6 hmlt hnlt hkk hlt hlt'
              obtain ⟨wk, rfl⟩ : ∃ wk : World, wk = wr := ⟨_, rfl⟩
              go_loopg [8, 9] n.kids.length (fun g s8 _ wx => ∃ (k : Nat) (ml : List Bool), s8 = .int .i64 k ∧ g = n.kids.length - k ∧ k ≤ n.kids.length ∧ Below w.heap.size w wx ∧ Blk wx w.heap.size 24 #[.int .i64 m.next, .slice A m.nodes.length c] ∧ Blk wx (w.heap.size + 1) 38 #[.int .i64 n.id, .string n.concept, .int .i64 n.parent, .string n.role, .slice Sp n.props.length cp, .slice Sk n.kids.length ck, .slice Sr n.refs.length cr] ∧ MetB wx wk.heap.size ml ∧ KidsTo m n k ml)
              case atStart => exact ⟨0, _, rfl, rfl, Nat.zero_le _, HB.out.alloc (HB.out.size) _, HM.out.alloc _, HN.out.alloc _, MetB.made _ _, KidsTo.start m n⟩
              case round =>
                have hwk1 := HN.out.lt
                have hwk0 := HB.out.size
                clear HB HM HN
                obtain ⟨k, ml, rfl, rfl, hkk, hb, hmb, hnb, hme, hK⟩ := hrel
                have HB := Lib.hid hb; have HM := Lib.hid hmb; have HN := Lib.hid hnb; have HE := Lib.hid hme; have HK := Lib.hid hK
                have m0 := hmb.cell 0; have m1 := hmb.cell 1
                have n5 := hnb.cell 5
                have hmlt := hmb.lt; have hnlt := hnb.lt; have helt := Blk.lt hme
                simp at m0 m1 n5
                have hmll := hK.len
                clear hmb hnb hme hK
                by_cases hlt : k < n.kids.length
                · have hlt' : (k : Int) < n.kids.length := by omega
                  have k0 : (0 : Int) ≤ k := by omega
                  obtain ⟨b, off, rfl, hbF, d0⟩ := int_at (RowOf.keep EInt.stays (Keep.below hb hF) (F' := F) (fun _ h => h) hk) hlt
                  clear hb
                  have Hmll := Lib.hid hmll; clear hmll
                  go_upto_region 17 with fail
                  go_still_tail 6, (by kernel_rfl)
                  go_wp2_with fail
                  refine (at_any A c _ _ m.nodes _ F (by exact fun b hb => Nat.lt_of_lt_of_le (hF b hb) HB.out.size) (by exact h.keep ENode.stays (Keep.below HB.out.drew hF) (fun _ h => h)) hs hl).mono ?_
                  rintro _ w2 ⟨rfl, hb2⟩
                  have HB2 := Lib.hid (HB.out.drew.trans (hb2.mono HB.out.size))
                  have HM2 := Lib.hid (Blk.below HM.out.drew hb2 hmlt)
                  have HN2 := Lib.hid (Blk.below HN.out.drew hb2 hnlt)
                  have HE2 : Hid (MetB w2 wk.heap.size ml) := Lib.hid (Blk.below (Blk.drew HE.out) hb2 helt)
                  have m1 := HM2.out.cell 1; have n0 := HN2.out.cell 0
                  have hmlt2 := HM2.out.lt; have hnlt2 := HN2.out.lt; have helt2 := Blk.lt HE2.out
                  simp at m1 n0
                  clear hb2 d0 n5 m0
                  rcases atI_cases m.nodes n.kids[k] with ⟨i, hi, hi1, hi2⟩ | ⟨hi1, hi2⟩
                  · rw [hi2]
                    have i0 : (0 : Int) ≤ i := by omega
                    have i1 : decide ((i : Int) < 0) = false := decide_eq_false (by omega)
                    have i2 : (i : Int) < m.nodes.length := by omega
                    obtain ⟨b', off', Sp', cp', Sk', ck', Sr', cr', rfl, hbF', _, _, e2, _, _, _, _, _⟩ := node_at (RowOf.keep ENode.stays (Keep.below HB2.out hF) (F' := F) (fun _ h => h) h) hi
                    have HI := Lib.hid hi1
                    clear hi1 hi2
                    have hil : i < ml.length := by rw [Hmll.out]; exact hi
                    have e3 := HE2.out.cell hil
                    have e4 := Blk.frozen HE2.out i
                    cases hpe : (m.nodes[i].parent != n.id)
                    · have hp0 := (bne_eq_false_iff_eq.1 hpe)
                      have HP0 := Lib.hid hp0; clear hp0
                      cases hmi : ml[i]
                      · rw [hmi] at e3
                        have HKN := Lib.hid (HK.out.next hs hlt hi HI.out HP0.out hmi)
                        clear hmi
                        go_wp2
                        go_quiet (fail)
                        go_wp2
                        go_roundg (n.kids.length - (k + 1))
                        case measure => omega
                        case rel => exact ⟨k + 1, _, by go_num, rfl, by omega, (below_drewN HB2.out _).setCell (p := ⟨wk.heap.size, i, none⟩) hwk0 _, (HM2.out.drewN _).far (p := ⟨wk.heap.size, i, none⟩) (by show w.heap.size ≠ wk.heap.size; omega) _, (HN2.out.drewN _).far (p := ⟨wk.heap.size, i, none⟩) (by show w.heap.size + 1 ≠ wk.heap.size; omega) _, MetB.set_ (Blk.drewN HE2.out _) i true, HKN.out⟩
                      · rw [hmi] at e3
                        have E := Lib.hid (plainB_no (m := m) (n := n) (fun h => HK.out.twice hlt hi HI.out hmi h.2.2.2.2.2))
                        clear hmi
                        go_wp2
                        go_quiet (fail)
                        go_wp2
                        go_ret
                        exact ⟨by rw [E.out]; rfl, below_drewN HB2.out _⟩
                    · have hp0 := (bne_iff_ne.1 hpe)
                      have E := Lib.hid (plainB_no (m := m) (n := n) (fun h => kid_not hs hlt hi HI.out hp0 h.2.2.2.2.1))
                      clear hp0
                      go_wp2
                      go_quiet (fail)
                      go_wp2
                      go_ret
                      exact ⟨by rw [E.out]; rfl, below_drewN HB2.out _⟩
                  · rw [hi2]
                    have E := Lib.hid (plainB_no (m := m) (n := n) (fun h => kid_none hlt hi1 h.2.2.2.2.1))
                    clear hi1 hi2
                    go_wp2
                    go_quiet (fail)
                    go_wp2
                    go_ret
                    exact ⟨by rw [E.out]; rfl, below_drewN HB2.out _⟩
                · have hlt' : decide ((k : Int) < n.kids.length) = false := decide_eq_false (by omega)
                  have ht : n.kids.take k = n.kids := List.take_of_length_le (by omega)
                  have E := Lib.hid (plainB_yes (m := m) (n := n) ⟨HC.out, hkl, HPROPS.out, HREFS.out, fun x hx => HK.out.at_ x (by rw [ht]; exact hx), by have := HK.out.nodup; rwa [ht] at this⟩)
                  clear ht hb
                  go_wp2
                  go_ret
                  exact ⟨by rw [E.out]; rfl, HB.out⟩
    · have hkl' : (m.nodes.length : Int) < n.kids.length := by omega
      have E := Lib.hid (plainB_no (m := m) (n := n) (fun h => hkl h.2.1))
      go_wp2
      go_ret
      exact ⟨by rw [E.out]; rfl, ((Below.refl _ _).alloc (Nat.le_refl _) _).alloc (by simp) _⟩
end Go.Proofs.Ytmafhaadcjgcbaa
end
section
namespace Go.Proofs.Ytmafhaadcjgcbaa
open Go Go.RowKit

/-- the texts in a node are no longer than texts are -/
def StrOK (x : ANode) : Prop := x.concept.size ≤ 9223372036854775807 ∧ x.role.size ≤ 9223372036854775807 ∧ (∀ p ∈ x.props, p.name.size ≤ 9223372036854775807 ∧ p.value.size ≤ 9223372036854775807) ∧ ∀ r ∈ x.refs, r.role.size ≤ 9223372036854775807
open Classical in
noncomputable def rightM (m : AModel) : Bool := decide (RightM m)
open Classical in
theorem rightM_no {m : AModel} (h : ¬ RightM m) : rightM m = false := decide_eq_false h
open Classical in
theorem rightM_yes {m : AModel} (h : RightM m) : rightM m = true := decide_eq_true h
open Classical in
theorem plainB_is {m : AModel} {n : ANode} {b : Bool} (h : plainB m n = b) : Plain m n ↔ b = true := by rw [← h]; exact (decide_eq_true_iff).symm
open Classical in
theorem belB_is {m : AModel} {n : ANode} {b : Bool} (h : belB m n = b) : Bel m 64 n ↔ b = true := by rw [← h]; exact (decide_eq_true_iff).symm
def IdsTo (m : AModel) (k : Nat) : Prop := ∀ j, j < k → IdAt m j
theorem IdsTo.next {m : AModel} {k : Nat} (h : IdsTo m k) (hk : IdAt m k) : IdsTo m (k + 1) := fun j hj => by
  rcases Nat.lt_succ_iff_lt_or_eq.1 hj with h' | h'
  · exact h j h'
  · subst h'; exact hk
def NodesTo (m : AModel) (k : Nat) : Prop := ∀ j (h : j < m.nodes.length), j < k → Plain m m.nodes[j] ∧ Bel m 64 m.nodes[j]
theorem NodesTo.next {m : AModel} {k : Nat} (h : NodesTo m k) (hk : ∀ h : k < m.nodes.length, Plain m m.nodes[k] ∧ Bel m 64 m.nodes[k]) : NodesTo m (k + 1) := fun j hj hjk => by
  rcases Nat.lt_succ_iff_lt_or_eq.1 hjk with h' | h'
  · exact h j hj h'
  · subst h'; exact hk hj
theorem mem_of_getElem' {m : AModel} {k : Nat} (h : k < m.nodes.length) : m.nodes[k] ∈ m.nodes := List.getElem_mem h

theorem res_is {f : FuncId} {args : Array Value} {w : World} {p b : Bool} {R : World → Prop} (h : p = b) (hc : Calls Try.prog f args w fun e w' => e = .returned (.bool p) ∧ R w') : Calls Try.prog f args w fun e w' => e = .returned (.bool b) ∧ R w' := by
  rw [h] at hc; exact hc

set_option maxRecDepth 100000 in
set_option maxHeartbeats 2000000 in
theorem right_any (A : Option Addr) (c : Nat) (m : AModel) (w : World) (F : Nat → Prop) (hF : ∀ b, F b → b < w.heap.size) (h : RowOf 7 ENode w F A m.nodes) (hz : ∀ x ∈ m.nodes, StrOK x) (hl : m.nodes.length ≤ 9223372036854775807) :
    Calls Try.prog 55 #[.agg #[.int .i64 m.next, .slice A m.nodes.length c]] w fun e w' => e = .returned (.bool (rightM m)) ∧ Below w.heap.size w w' := by
  by_cases h1 : m.next < 1
  · have E := Lib.hid (rightM_no (m := m) (fun h => by have := h.1.1.1; omega))
    go_enter Try.func55, Try.ntmps55
    go_wp2
    go_ret
    exact ⟨by rw [E.out]; rfl, (Below.refl _ _).alloc (Nat.le_refl _) _⟩
  · by_cases h2 : 1048577 < m.next
    · have E := Lib.hid (rightM_no (m := m) (fun h => by have := h.1.1.2.1; omega))
      have h1' : 1 ≤ m.next := by omega
      go_enter Try.func55, Try.ntmps55
      go_wp2
      go_ret
      exact ⟨by rw [E.out]; rfl, (Below.refl _ _).alloc (Nat.le_refl _) _⟩
    · by_cases h3 : 4096 < m.nodes.length
      · have E := Lib.hid (rightM_no (m := m) (fun h => by have := h.1.1.2.2; omega))
        have h1' : 1 ≤ m.next := by omega
        have h2' : m.next ≤ 1048577 := by omega
        have h3' : (4096 : Int) < m.nodes.length := by omega
        go_enter Try.func55, Try.ntmps55
        go_wp2
        go_ret
        exact ⟨by rw [E.out]; rfl, (Below.refl _ _).alloc (Nat.le_refl _) _⟩
      · have HH : HeadOK m := ⟨by omega, by omega, by omega⟩
        have h1' : decide (m.next < 1) = false := decide_eq_false h1
        have h2' : decide (1048577 < m.next) = false := decide_eq_false h2
        have h3' : decide ((4096 : Int) < m.nodes.length) = false := decide_eq_false (by omega)
        have h3'' : decide (4096 < m.nodes.length) = false := decide_eq_false h3
        have hl4 : m.nodes.length ≤ 4096 := by omega
        go_enter Try.func55, Try.ntmps55
        go_wp2_with fail
        go_loopg [3] m.nodes.length (fun g s3 wx => ∃ k : Nat, s3 = .int .i64 k ∧ g = m.nodes.length - k ∧ k ≤ m.nodes.length ∧ Below w.heap.size w wx ∧ Blk wx w.heap.size 24 #[.int .i64 m.next, .slice A m.nodes.length c] ∧ IdsTo m k)
        case atStart => exact ⟨0, rfl, rfl, Nat.zero_le _, (Below.refl _ _).alloc (Nat.le_refl _) _, Blk.new _ _ _, fun j hj => absurd hj (Nat.not_lt_zero _)⟩
        case round =>
          obtain ⟨k, rfl, rfl, hkk, hb, hmb, hall⟩ := hrel
          have HB := Lib.hid hb; have HM := Lib.hid hmb; have HA := Lib.hid hall
          have m0 := hmb.cell 0; have m1 := hmb.cell 1
          have hmlt := hmb.lt
          simp at m0 m1
          clear hmb hall
          by_cases hlt : k < m.nodes.length
          · have hlt' : (k : Int) < m.nodes.length := by omega
            have k0 : (0 : Int) ≤ k := by omega
            have hR := RowOf.keep ENode.stays (Keep.below hb hF) (F' := F) (fun _ h => h) h
            obtain ⟨b, off, Sp, cp, Sk, ck, Sr, cr, rfl, hbF, d0, _⟩ := node_at hR hlt
            have HR := Lib.hid hR
            clear hR hb
            by_cases hv : m.nodes[k].id < 1
            · have E := Lib.hid (rightM_no (m := m) (fun h => by have := (h.1.2 k hlt).1; omega))
              go_wp2
              go_quiet (fail)
              go_wp2
              go_ret
              exact ⟨by rw [E.out]; rfl, below_drewN HB.out _⟩
            · have hv' : decide (m.nodes[k].id < 1) = false := decide_eq_false hv
              by_cases hu : m.next ≤ m.nodes[k].id
              · have E := Lib.hid (rightM_no (m := m) (fun h => by have := (h.1.2 k hlt).2.1; omega))
                go_wp2
                go_quiet (fail)
                go_wp2
                go_ret
                exact ⟨by rw [E.out]; rfl, below_drewN HB.out _⟩
              · have hu' : decide (m.next ≤ m.nodes[k].id) = false := decide_eq_false hu
                by_cases hk0 : k = 0
                · subst hk0
                  have g0 : decide ((0 : Int) < ((0 : Nat) : Int)) = false := by decide
                  simp only [Nat.zero_mul, Nat.add_zero, Nat.zero_add] at d0
                  have g2 : (0 : Int) < m.nodes.length := by omega
                  have HP := Lib.hid (show IdAt m 0 from fun _ => ⟨by omega, by omega, fun h => absurd h (by omega)⟩)
                  clear hv hu
                  go_wp2
                  go_quiet (fail)
                  go_wp2
                  go_roundg (m.nodes.length - (0 + 1))
                  case measure => omega
                  case rel => exact ⟨0 + 1, by go_num, rfl, by omega, below_drewN HB.out _, HM.out.drewN _, HA.out.next HP.out⟩
                · obtain ⟨i, rfl⟩ : ∃ i, k = i + 1 := ⟨k - 1, by omega⟩
                  obtain ⟨b', off', _, _, _, _, _, _, e', _, d2, _⟩ := node_at HR.out (show i < m.nodes.length by omega)
                  injection e' with e'
                  injection e' with e1 e2
                  subst e1; subst e2
                  have q1 : IntKind.i64.wrap (((i + 1 : Nat) : Int) - 1) = i := by rw [IntWalk.i64_in _ ⟨by omega, by omega⟩]; omega
                  have q2 : (i : Int) < m.nodes.length := by omega
                  have q3 : (0 : Int) ≤ i := by omega
                  have q4 : (0 : Int) < ((i + 1 : Nat) : Int) := by omega
                  have q7 : (i : Int) + 1 < m.nodes.length := by omega
                  have q8 : (0 : Int) ≤ (i : Int) + 1 := by omega
                  have q9 : ((i : Int) + 1).toNat = i + 1 := by omega
                  have q5 : (0 : Int) < (i : Int) + 1 := by omega
                  have q6 : IntKind.i64.wrap ((i : Int) + 1 - 1) = i := by rw [IntWalk.i64_in _ ⟨by omega, by omega⟩]; omega
                  by_cases hg : m.nodes[i + 1].id ≤ m.nodes[i].id
                  · have E := Lib.hid (rightM_no (m := m) (fun h => by have := (h.1.2 (i + 1) hlt).2.2 (by omega); simp only [Nat.add_sub_cancel] at this; omega))
                    clear hv hu
                    go_wp2
                    go_quiet (fail)
                    go_wp2
                    go_ret
                    exact ⟨by rw [E.out]; rfl, below_drewN HB.out _⟩
                  · have HP := Lib.hid (show IdAt m (i + 1) from fun _ => ⟨by omega, by omega, fun _ => by simp only [Nat.add_sub_cancel]; omega⟩)
                    have hg' : decide (m.nodes[i + 1].id ≤ m.nodes[i].id) = false := decide_eq_false hg
                    clear hv hu hg
                    go_wp2
                    go_quiet (fail)
                    go_wp2
                    go_roundg (m.nodes.length - (i + 1 + 1))
                    case measure => omega
                    case rel => exact ⟨i + 1 + 1, by go_num, rfl, by omega, below_drewN HB.out _, HM.out.drewN _, HA.out.next HP.out⟩
          · have hlt' : decide ((k : Int) < m.nodes.length) = false := decide_eq_false (by omega)
            have HI : Hid (IdsOK m) := Lib.hid ⟨HH, fun i hi => HA.out i (by omega) hi⟩
            obtain ⟨wp, rfl⟩ : ∃ wp : World, wp = wr := ⟨_, rfl⟩
            go_wp2_with fail
            clear HA m0 m1 hmlt hkk hlt hlt' hb
            go_loopg [4] m.nodes.length (fun g s3 wx => ∃ k : Nat, s3 = .int .i64 k ∧ g = m.nodes.length - k ∧ k ≤ m.nodes.length ∧ Below w.heap.size w wx ∧ Blk wx w.heap.size 24 #[.int .i64 m.next, .slice A m.nodes.length c] ∧ NodesTo m k)
            case atStart => exact ⟨0, rfl, rfl, Nat.zero_le _, HB.out, HM.out, fun j _ hj => absurd hj (Nat.not_lt_zero _)⟩
            case round =>
              clear HB HM
              obtain ⟨k, rfl, rfl, hkk, hb, hmb, hall⟩ := hrel
              have HB := Lib.hid hb; have HM := Lib.hid hmb; have HA := Lib.hid hall
              have m0 := hmb.cell 0; have m1 := hmb.cell 1
              have hmlt := hmb.lt
              simp at m0 m1
              clear hmb hall
              by_cases hlt : k < m.nodes.length
              · have hlt' : (k : Int) < m.nodes.length := by omega
                have k0 : (0 : Int) ≤ k := by omega
                have hR := RowOf.keep ENode.stays (Keep.below hb hF) (F' := F) (fun _ h => h) h
                obtain ⟨b, off, Sp, cp, Sk, ck, Sr, cr, rfl, hbF, d0, d1, d2, d3, d4, d5, d6, ⟨_, hp2, hp3⟩, ⟨_, hk2, hk3⟩, ⟨_, hr2, hr3⟩⟩ := node_at hR hlt
                have hzz := hz _ (mem_of_getElem' hlt)
                have hbw := hF _ hbF
                have hsz := hb.size
                have HPl := Lib.hid (fun (w0 : World) (hb0 : Below wr.heap.size wr w0) => plain_any (some ⟨b, off, none⟩) c m m.nodes[k] Sp Sk Sr cp ck cr w0 F (fun b hb' => by have := hF b hb'; have := hb0.size; omega) (h.keep ENode.stays (Keep.below (hb.trans (hb0.mono hsz)) hF) (fun _ h => h)) HI.out.srt (by omega) (hp3.keep EProp.stays (Keep.below hb0 (fun b hb' => by have := hF b hb'; omega)) (fun _ h => h)) (hk3.keep EInt.stays (Keep.below hb0 (fun b hb' => by have := hF b hb'; omega)) (fun _ h => h)) (hr3.keep ERef.stays (Keep.below hb0 (fun b hb' => by have := hF b hb'; omega)) (fun _ h => h)) (by unfold maxLen at hp2; omega) (by unfold maxLen at hk2; omega) (by unfold maxLen at hr2; omega) hzz.1 hzz.2.2.1 hzz.2.2.2)
                have HBe := Lib.hid (fun (w0 : World) (hb0 : Below wr.heap.size wr w0) => below_any (some ⟨b, off, none⟩) c m m.nodes[k] Sp Sk Sr cp ck cr w0 F (fun b hb' => by have := hF b hb'; have := hb0.size; omega) (h.keep ENode.stays (Keep.below (hb.trans (hb0.mono hsz)) hF) (fun _ h => h)) HI.out.srt (by omega) (fun x hx => (hz x hx).2.1) (mem_of_getElem' hlt))
                clear hR hb hp2 hp3 hk2 hk3 hr2 hr3 hzz
                have hb1 : b < wr.heap.size := by omega
                go_upto_region 11 with fail
                go_cut [88] (fun s88 wx => s88 = .bool (!(plainB m m.nodes[k] && belB m m.nodes[k])) ∧ Below wr.heap.size wr wx)
                case first =>
                  cases hpl : plainB m m.nodes[k]
                  · have HPL := Lib.hid (fun w0 hb0 => res_is hpl (HPl.out w0 hb0))
                    have HE1 := Lib.hid hpl
                    clear hpl
                    have k0 := cell_regrown m0; have k1 := cell_regrown m1
                    have e0 := cell_regrown d0; have e1 := cell_regrown d1; have e2 := cell_regrown d2; have e3 := cell_regrown d3; have e4 := cell_regrown d4; have e5 := cell_regrown d5; have e6 := cell_regrown d6
                    have CP := Lib.hid (fun (d : Nat) (os : Array Obj) => Calls.regrown_of (HPL.out _ (below_regrown wr d os)))
                    clear m0 m1 d0 d1 d2 d3 d4 d5 d6
                    refine wp_region_quiet_below (by kernel_rfl) (by kernel_rfl) ?_
                    repeat (first | go_big_quiet_step (exact CP.out _ _) | quiet_step (exact CP.out _ _))
                    refine wpQuiet_nil ?_
                    intro _ hw'
                    obtain ⟨⟨dq, osq⟩, hw''⟩ := hw'
                    subst hw''
                    go_wp2
                    go_meet
                    case rel => exact ⟨by rw [HE1.out]; rfl, below_regrown wr dq osq⟩
                  · have HPL := Lib.hid (fun w0 hb0 => res_is hpl (HPl.out w0 hb0))
                    have HE1 := Lib.hid hpl
                    clear hpl
                    cases hbl : belB m m.nodes[k]
                    · have HBL := Lib.hid (fun w0 hb0 => res_is hbl (HBe.out w0 hb0))
                      have HE2 := Lib.hid hbl
                      clear hbl
                      have k0 := cell_regrown m0; have k1 := cell_regrown m1
                      have e0 := cell_regrown d0; have e1 := cell_regrown d1; have e2 := cell_regrown d2; have e3 := cell_regrown d3; have e4 := cell_regrown d4; have e5 := cell_regrown d5; have e6 := cell_regrown d6
                      have CP := Lib.hid (fun (d : Nat) (os : Array Obj) => Calls.regrown_of (HPL.out _ (below_regrown wr d os)))
                      have CB := Lib.hid (fun (d : Nat) (os : Array Obj) => Calls.regrown_of (HBL.out _ (below_regrown wr d os)))
                      clear m0 m1 d0 d1 d2 d3 d4 d5 d6
                      refine wp_region_quiet_below (by kernel_rfl) (by kernel_rfl) ?_
                      repeat (first | go_big_quiet_step ((first | exact CP.out _ _ | exact CB.out _ _)) | quiet_step ((first | exact CP.out _ _ | exact CB.out _ _)))
                      refine wpQuiet_nil ?_
                      intro _ hw'
                      obtain ⟨⟨dq, osq⟩, hw''⟩ := hw'
                      subst hw''
                      go_wp2
                      go_meet
                      case rel => exact ⟨by rw [HE1.out, HE2.out]; rfl, below_regrown wr dq osq⟩
                    · have HBL := Lib.hid (fun w0 hb0 => res_is hbl (HBe.out w0 hb0))
                      have HE2 := Lib.hid hbl
                      clear hbl
                      have k0 := cell_regrown m0; have k1 := cell_regrown m1
                      have e0 := cell_regrown d0; have e1 := cell_regrown d1; have e2 := cell_regrown d2; have e3 := cell_regrown d3; have e4 := cell_regrown d4; have e5 := cell_regrown d5; have e6 := cell_regrown d6
                      have CP := Lib.hid (fun (d : Nat) (os : Array Obj) => Calls.regrown_of (HPL.out _ (below_regrown wr d os)))
                      have CB := Lib.hid (fun (d : Nat) (os : Array Obj) => Calls.regrown_of (HBL.out _ (below_regrown wr d os)))
                      clear m0 m1 d0 d1 d2 d3 d4 d5 d6
                      refine wp_region_quiet_below (by kernel_rfl) (by kernel_rfl) ?_
                      repeat (first | go_big_quiet_step ((first | exact CP.out _ _ | exact CB.out _ _)) | quiet_step ((first | exact CP.out _ _ | exact CB.out _ _)))
                      refine wpQuiet_nil ?_
                      intro _ hw'
                      obtain ⟨⟨dq, osq⟩, hw''⟩ := hw'
                      subst hw''
                      go_wp2
                      go_meet
                      case rel => exact ⟨by rw [HE1.out, HE2.out]; rfl, below_regrown wr dq osq⟩
                case rest =>
                  obtain ⟨rfl, hb11⟩ := hcut
                  have HB11 := Lib.hid (HB.out.trans (hb11.mono hsz))
                  have HM11 := Lib.hid (HM.out.below hb11 hmlt)
                  clear hb11
                  cases hpl : plainB m m.nodes[k]
                  · have E := Lib.hid (rightM_no (m := m) (fun h => by have := (plainB_is hpl).1 (h.2 _ (mem_of_getElem' hlt)).1; cases this))
                    clear hpl
                    go_wp2
                    go_ret
                    exact ⟨by rw [E.out]; rfl, HB11.out⟩
                  · cases hbl : belB m m.nodes[k]
                    · have E := Lib.hid (rightM_no (m := m) (fun h => by have := (belB_is hbl).1 (h.2 _ (mem_of_getElem' hlt)).2; cases this))
                      clear hpl hbl
                      go_wp2
                      go_ret
                      exact ⟨by rw [E.out]; rfl, HB11.out⟩
                    · have HN := Lib.hid (HA.out.next (fun _ => ⟨(plainB_is hpl).2 rfl, (belB_is hbl).2 rfl⟩))
                      clear hpl hbl
                      go_wp2
                      go_roundg (m.nodes.length - (k + 1))
                      case measure => omega
                      case rel => exact ⟨k + 1, by go_num, rfl, by omega, HB11.out, HM11.out, HN.out⟩
              · have hlt' : decide ((k : Int) < m.nodes.length) = false := decide_eq_false (by omega)
                have E := Lib.hid (rightM_yes (m := m) ⟨HI.out, fun x hx => by obtain ⟨i, hi, rfl⟩ := List.getElem_of_mem hx; exact HA.out i hi (by omega)⟩)
                clear hb
                go_wp2
                go_ret
                exact ⟨by rw [E.out]; rfl, HB.out⟩
end Go.Proofs.Ytmafhaadcjgcbaa
end
