import Derived.Test.YtpkapommekkbcaaDoorProg
import Derived.Test.YtpkapommekkbcaaDoorAPlain
import Derived.Test.YtpkapommekkbcaaDoorANodes
import Derived.Deep.LoopGhost
import Derived.Test.YtpkapommekkbcaaDoorAAt
import Derived.Test.YtpkapommekkbcaaDoorAWordRef
set_option linter.unusedSimpArgs false
set_option linter.unusedVariables false
section
namespace Go.Proofs.YtpkapommekkbcaaDoor
open Go Go.RowKit

set_option maxRecDepth 100000 in
set_option maxHeartbeats 400000 in
theorem index_any (A : Option Addr) (c : Nat) (l : List Int) (id : Int) (w : World) (F : Nat → Prop) (h : RowOf 1 EInt w F A l) (hl : l.length ≤ 9223372036854775807) :
    Calls Tryd.prog 66 #[.slice A l.length c, .int .i64 id] w fun e w' => e = .returned (.int .i64 (idxI l id)) ∧ w = w' := by
  go_enter Tryd.func66, Tryd.ntmps66
  go_wp2
  go_loopg [5] l.length (fun g s5 wx => ∃ k : Nat, s5 = .int .i64 k ∧ g = l.length - k ∧ k ≤ l.length ∧ w = wx ∧ ∀ j (hj : j < l.length), j < k → l[j] ≠ id)
  case atStart => exact ⟨0, rfl, rfl, Nat.zero_le _, rfl, fun j hj h => absurd h (Nat.not_lt_zero _)⟩
  case round =>
    obtain ⟨k, rfl, rfl, hk, rfl, hn⟩ := hrel
    have HN := Lib.hid hn; clear hn
    by_cases hlt : k < l.length
    · obtain ⟨b, off, rfl, hb, d0⟩ := int_at h hlt
      have m1 : (0 : Int) ≤ k := by omega
      have m2 : (k : Int) < l.length := by omega
      by_cases he : l[k] = id
      · have HE := Lib.hid (idxI_at hlt he HN.out)
        have he' : (l[k] == id) = true := beq_iff_eq.2 he
        clear he
        go_wp2
        go_ret
        exact ⟨by rw [HE.out]; rfl, rfl⟩
      · have he' : (l[k] == id) = false := beq_eq_false_iff_ne.2 he
        have HE := Lib.hid he
        clear he
        go_wp2
        go_roundg (l.length - (k + 1))
        case measure => omega
        case rel => exact ⟨k + 1, by go_num, rfl, by omega, rfl, fun j hj hjk => by
          rcases Nat.lt_succ_iff_lt_or_eq.1 hjk with h' | h'
          · exact HN.out j hj h'
          · subst h'; exact HE.out⟩
    · have HE := Lib.hid (idxI_none (l := l) (id := id) fun j hj => HN.out j hj (by omega))
      have m2 : decide ((k : Int) < l.length) = false := decide_eq_false (by omega)
      go_wp2
      go_ret
      exact ⟨by rw [HE.out]; rfl, rfl⟩
theorem has_any (A : Option Addr) (c : Nat) (l : List Int) (id : Int) (w : World) (F : Nat → Prop) (h : RowOf 1 EInt w F A l) (hl : l.length ≤ 9223372036854775807) :
    Calls Tryd.prog 55 #[.slice A l.length c, .int .i64 id] w fun e w' => e = .returned (.bool (decide (id ∈ l))) ∧ w = w' := by
  go_enter Tryd.func55, Tryd.ntmps55
  go_wp2_with fail
  refine (index_any A c l id _ F h hl).mono ?_
  rintro _ _ ⟨rfl, rfl⟩
  by_cases hm : id ∈ l
  · have h0 := idxI_mem.2 hm
    have E := Lib.hid (decide_eq_true hm); clear hm
    go_wp2
    go_ret
    exact ⟨by rw [E.out]; simp, rfl⟩
  · have h0 : idxI l id < 0 := by
      have := mt idxI_mem.1 hm; omega
    have E := Lib.hid (decide_eq_false hm); clear hm
    go_wp2
    go_ret
    exact ⟨by rw [E.out]; simpa using h0, rfl⟩
end Go.Proofs.YtpkapommekkbcaaDoor
end
section
namespace Go.Proofs.YtpkapommekkbcaaDoor
open Go Go.RowKit

theorem same_flip {P : Program} {f : FuncId} {args : Array Value} {w : World} {v : Value} (h : Calls P f args w fun e w' => e = .returned v ∧ w = w') : Calls P f args w fun e w' => e = .returned v ∧ w' = w :=
  h.mono fun _ _ ⟨a, b⟩ => ⟨a, b.symm⟩
/-- the seven cells of a node, its lists wherever they lie -/
def NodeBlk (w : World) (g : Nat) (t : TypeId) (F : Nat → Prop) (n : ANode) : Prop :=
  ∃ Sp cp Sk ck Sr cr, Blk w g t #[.int .i64 n.id, .string n.concept, .int .i64 n.parent, .string n.role, .slice Sp n.props.length cp, .slice Sk n.kids.length ck, .slice Sr n.refs.length cr]
theorem NodeBlk.below {w w' : World} {g B : Nat} {t : TypeId} {F : Nat → Prop} {n : ANode} (h : NodeBlk w g t F n) (hb : Below B w w') (hg : g < B) : NodeBlk w' g t F n := by
  obtain ⟨a, b, c, d, e, f, h⟩ := h
  exact ⟨a, b, c, d, e, f, h.below hb hg⟩
theorem Blk.store7 {w : World} {g : Nat} {t : TypeId} {a0 a1 a2 a3 a4 a5 a6 b0 b1 b2 b3 b4 b5 b6 : Value} (h : Blk w g t #[a0, a1, a2, a3, a4, a5, a6]) :
    Blk (((((((w.setCell ⟨g, 0, none⟩ b0).setCell ⟨g, 1, none⟩ b1).setCell ⟨g, 2, none⟩ b2).setCell ⟨g, 3, none⟩ b3).setCell ⟨g, 4, none⟩ b4).setCell ⟨g, 5, none⟩ b5).setCell ⟨g, 6, none⟩ b6) g t #[b0, b1, b2, b3, b4, b5, b6] := by
  simpa using ((((((h.set_ 0 b0).set_ 1 b1).set_ 2 b2).set_ 3 b3).set_ 4 b4).set_ 5 b5).set_ 6 b6
theorem Blk.far7 {w : World} {g g' : Nat} {t : TypeId} {cs : Array Value} {b0 b1 b2 b3 b4 b5 b6 : Value} (h : Blk w g t cs) (hne : g ≠ g') :
    Blk (((((((w.setCell ⟨g', 0, none⟩ b0).setCell ⟨g', 1, none⟩ b1).setCell ⟨g', 2, none⟩ b2).setCell ⟨g', 3, none⟩ b3).setCell ⟨g', 4, none⟩ b4).setCell ⟨g', 5, none⟩ b5).setCell ⟨g', 6, none⟩ b6) g t cs :=
  ((((((h.far hne b0).far hne b1).far hne b2).far hne b3).far hne b4).far hne b5).far hne b6
theorem below_set7 {B : Nat} {a w : World} {g : Nat} {b0 b1 b2 b3 b4 b5 b6 : Value} (h : Below B a w) (hg : B ≤ g) :
    Below B a (((((((w.setCell ⟨g, 0, none⟩ b0).setCell ⟨g, 1, none⟩ b1).setCell ⟨g, 2, none⟩ b2).setCell ⟨g, 3, none⟩ b3).setCell ⟨g, 4, none⟩ b4).setCell ⟨g, 5, none⟩ b5).setCell ⟨g, 6, none⟩ b6) :=
  ((((((h.setCell (p := ⟨g, 0, none⟩) hg b0).setCell (p := ⟨g, 1, none⟩) hg b1).setCell (p := ⟨g, 2, none⟩) hg b2).setCell (p := ⟨g, 3, none⟩) hg b3).setCell (p := ⟨g, 4, none⟩) hg b4).setCell (p := ⟨g, 5, none⟩) hg b5).setCell (p := ⟨g, 6, none⟩) hg b6
open Classical in
noncomputable def belB (m : AModel) (n : ANode) : Bool := decide (Bel m 64 n)
open Classical in
theorem belB_root {m : AModel} {n x : ANode} {f : Nat} (h : Bel m 64 n ↔ Bel m (f + 1) x) (h0 : x.parent = 0) : belB m n = x.role.toList.isEmpty := by
  unfold belB
  have e : (Bel m (f + 1) x) ↔ x.role.toList.isEmpty = true := by
    rw [ByteArray.toList_eq, List.isEmpty_iff]
    constructor
    · rintro (⟨_, h1⟩ | ⟨h1, _⟩)
      · exact List.eq_nil_of_length_eq_zero h1
      · exact absurd h0 h1
    · intro h1
      refine .inl ⟨h0, ?_⟩
      have : x.role.data.toList.length = 0 := by rw [h1]; rfl
      exact this
  rw [Bool.eq_iff_iff, decide_eq_true_iff, h, e]
open Classical in
theorem belB_no {m : AModel} {n x : ANode} {f : Nat} (h : Bel m 64 n ↔ Bel m f x) (h0 : ¬ Bel m f x) : belB m n = false := decide_eq_false (fun e => h0 (h.1 e))
theorem bel_next {m : AModel} {n x y : ANode} {f : Nat} (hs : Srt m.nodes) (h : Bel m 64 n ↔ Bel m (f + 1) x) (h0 : x.parent ≠ 0) (hw : wordA x.role = true) (hy : y ∈ m.nodes) (e : y.id = x.parent) (hk : x.id ∈ y.kids) : Bel m 64 n ↔ Bel m f y := by
  rw [h]
  constructor
  · rintro (⟨h1, _⟩ | ⟨_, z, hz, e2, _, _, hb⟩)
    · exact absurd h1 h0
    · obtain ⟨i, hi, rfl⟩ := List.getElem_of_mem hy
      obtain ⟨j, hj, rfl⟩ := List.getElem_of_mem hz
      have := hs.inj hi hj (by omega)
      subst this; exact hb
  · intro hb
    exact .inr ⟨h0, y, hy, e, hw, hk, hb⟩
theorem bel_none {m : AModel} {x : ANode} {f : Nat} (h0 : x.parent ≠ 0) (hn : ∀ i (h : i < m.nodes.length), m.nodes[i].id ≠ x.parent) : ¬ Bel m (f + 1) x := by
  rintro (⟨h1, _⟩ | ⟨_, z, hz, e2, _⟩)
  · exact h0 h1
  · obtain ⟨j, hj, rfl⟩ := List.getElem_of_mem hz
    exact hn j hj e2
theorem bel_noword {m : AModel} {x : ANode} {f : Nat} (h0 : x.parent ≠ 0) (hw : wordA x.role = false) : ¬ Bel m (f + 1) x := by
  rintro (⟨h1, _⟩ | ⟨_, z, hz, e2, h3, _⟩)
  · exact h0 h1
  · rw [hw] at h3; cases h3
theorem bel_nokid {m : AModel} {x y : ANode} {f : Nat} (hs : Srt m.nodes) (h0 : x.parent ≠ 0) (hy : y ∈ m.nodes) (e : y.id = x.parent) (hk : x.id ∉ y.kids) : ¬ Bel m (f + 1) x := by
  rintro (⟨h1, _⟩ | ⟨_, z, hz, e2, _, h3, _⟩)
  · exact h0 h1
  · obtain ⟨i, hi, rfl⟩ := List.getElem_of_mem hy
    obtain ⟨j, hj, rfl⟩ := List.getElem_of_mem hz
    have := hs.inj hi hj (by omega)
    subst this; exact hk h3

theorem word_is {s : ByteArray} {b : Bool} (hs : s.size ≤ 9223372036854775807) (h : wordA s = b) (w : World) : Calls Tryd.prog 54 #[.string s] w fun e w' => e = .returned (.bool b) ∧ w = w' := by
  have := refWord_any s hs w
  rw [h] at this; exact this
theorem has_is {f : FuncId} {args : Array Value} {w : World} {p b : Bool} (h : p = b) (hc : Calls Tryd.prog f args w fun e w' => e = .returned (.bool p) ∧ w = w') : Calls Tryd.prog f args w fun e w' => e = .returned (.bool b) ∧ w = w' := by
  rw [h] at hc; exact hc

set_option maxRecDepth 100000 in
set_option maxHeartbeats 600000 in
theorem below_any (A : Option Addr) (c : Nat) (m : AModel) (n : ANode) (Sp Sk Sr : Option Addr) (cp ck cr : Nat) (w : World) (F : Nat → Prop) (hF : ∀ b, F b → b < w.heap.size) (h : RowOf 7 ENode w F A m.nodes) (hs : Srt m.nodes) (hl : m.nodes.length ≤ 1048576)
    (hz : ∀ x ∈ m.nodes, x.role.size ≤ 9223372036854775807) (hn : n ∈ m.nodes) :
    Calls Tryd.prog 38 #[.agg #[.int .i64 m.next, .slice A m.nodes.length c], .agg #[.int .i64 n.id, .string n.concept, .int .i64 n.parent, .string n.role, .slice Sp n.props.length cp, .slice Sk n.kids.length ck, .slice Sr n.refs.length cr]] w
      fun e w' => e = .returned (.bool (belB m n)) ∧ Below w.heap.size w w' := by
  go_enter Tryd.func38, Tryd.ntmps38
  go_wp2
  go_loopg [5, 6] 65 (fun g s5 _ wx => ∃ (f d : Nat) (x : ANode), g = f + 1 ∧ d + f = 65 ∧ s5 = .int .i64 d ∧ x ∈ m.nodes ∧ (Bel m 64 n ↔ Bel m f x) ∧ Below w.heap.size w wx ∧ Blk wx w.heap.size 24 #[.int .i64 m.next, .slice A m.nodes.length c] ∧ NodeBlk wx (w.heap.size + 1) 37 F x)
  case atStart => exact ⟨64, 1, n, rfl, rfl, rfl, hn, Iff.rfl, ((Below.refl _ _).alloc (Nat.le_refl _) _).alloc (by simp) _, (Blk.new _ _ _).alloc _, _, _, _, _, _, _, Blk.new' (by simp)⟩
  case round =>
    obtain ⟨f, d, x, rfl, hf, rfl, hx, hB, hb, hm, hx7⟩ := hrel
    have hd1 : d ≤ 65 := by omega
    have Hf := Lib.hid hf; clear hf
    have HB := Lib.hid hb; have HM := Lib.hid hm; have HX := Lib.hid hx7; have HE := Lib.hid hB
    have hmz := hm.cell 1; have hmy := hm.cell 0
    have hmlt := hm.lt
    obtain ⟨_, _, _, _, _, _, hx7⟩ := hx7
    have hxlt := hx7.lt
    have x0 := hx7.cell 0; have x2 := hx7.cell 2; have x3 := hx7.cell 3
    have z0 := hx7.frozen 0; have z1 := hx7.frozen 1; have z2 := hx7.frozen 2; have z3 := hx7.frozen 3; have z4 := hx7.frozen 4; have z5 := hx7.frozen 5; have z6 := hx7.frozen 6
    simp at hmz hmy x0 x2 x3
    have hxs := hz x hx
    clear hB hb hm hx7
    by_cases hf0 : f = 0
    · subst hf0
      have hd2 : (64 : Int) < d := by have := Hf.out; omega
      have E := Lib.hid (belB_no HE.out (fun h => h))
      go_wp2
      go_ret
      exact ⟨by rw [E.out]; rfl, HB.out⟩
    · obtain ⟨f, rfl⟩ : ∃ f', f = f' + 1 := ⟨f - 1, by omega⟩
      have hd2 : (d : Int) ≤ 64 := by have := Hf.out; omega
      clear hf0
      cases hp0 : (x.parent == 0)
      · have hp1 : x.parent ≠ 0 := beq_eq_false_iff_ne.1 hp0
        have HP := Lib.hid hp1; clear hp1
        go_wp2_with fail
        refine (at_any A c _ _ m.nodes _ F (fun b hb => Nat.lt_of_lt_of_le (hF b hb) HB.out.size) (h.keep ENode.stays (Keep.below HB.out hF) (fun _ h => h)) hs hl).mono ?_
        rintro _ w1 ⟨rfl, hb1⟩
        have HB1 := Lib.hid (HB.out.trans (hb1.mono HB.out.size))
        have HM1 := Lib.hid (HM.out.below hb1 hmlt)
        have hmz := HM1.out.cell 1
        obtain ⟨_, _, _, _, _, _, hx7⟩ := HX.out
        have hx7 := hx7.below hb1 hxlt
        have hxlt1 := hx7.lt
        have x0 := hx7.cell 0; have x2 := hx7.cell 2; have x3 := hx7.cell 3
        have z0 := hx7.frozen 0; have z1 := hx7.frozen 1; have z2 := hx7.frozen 2; have z3 := hx7.frozen 3; have z4 := hx7.frozen 4; have z5 := hx7.frozen 5; have z6 := hx7.frozen 6
        have x1 := hx7.cell 1; have x4 := hx7.cell 4; have x5 := hx7.cell 5; have x6 := hx7.cell 6
        simp at hmz x0 x1 x2 x3 x4 x5 x6
        have HX7 := Lib.hid hx7
        clear hb1 hx7
        rcases atI_cases m.nodes x.parent with ⟨k, hk, hk1, hk2⟩ | ⟨hk1, hk2⟩
        · rw [hk2]
          have hk0 : (0 : Int) ≤ k := by omega
          have hk0' : decide ((k : Int) < 0) = false := decide_eq_false (by omega)
          have hk3 : (k : Int) < m.nodes.length := by omega
          have hR := RowOf.keep ENode.stays (Keep.below HB1.out hF) (F' := F) (fun _ h => h) h
          obtain ⟨b, off, Sp', cp', Sk', ck', Sr', cr', rfl, hbF, d0, d1, d2, d3, d4, d5, d6, _, ⟨hc1, hc2, hrow⟩, _⟩ := node_at hR hk
          have HK1 := Lib.hid hk1
          unfold maxLen at hc2
          clear hk1 hk2 hR
          cases hw : wordA x.role
          · have E := Lib.hid (belB_no HE.out (bel_noword HP.out hw))
            have HWD := Lib.hid (fun w0 => same_flip (word_is hxs hw w0))
            clear hw
            go_wp2
            go_quiet ((go_at_call 54; exact Calls.quiet_of_same (HWD.out _)))
            go_wp2
            go_ret
            exact ⟨by rw [E.out]; rfl, below_drewN HB1.out _⟩
          · have HWD := Lib.hid (fun w0 => same_flip (word_is hxs hw w0))
            have hsz1 := HB1.out.size
            have hrow' := fun nq => hrow.keep (F' := F) EInt.stays (Keep.drewN F w1 nq) (fun _ h => h)
            have HROW := Lib.hid hrow'
            clear hrow hrow'
            by_cases hmem : x.id ∈ m.nodes[k].kids
            · have hdec : decide (x.id ∈ m.nodes[k].kids) = true := decide_eq_true hmem
              have HN := Lib.hid (bel_next hs HE.out HP.out hw (List.getElem_mem hk) HK1.out hmem)
              have HHD := Lib.hid (fun nq => same_flip (has_is hdec (has_any Sk' ck' m.nodes[k].kids x.id _ F (HROW.out nq) (by omega))))
              clear hmem hdec hw
              go_wp2
              go_quiet ((first | (go_at_call 54; exact Calls.quiet_of_same (HWD.out _)) | (go_at_call 55; exact Calls.quiet_of_same (HHD.out _))))
              go_wp2
              go_roundg (f + 1)
              case measure => omega
              case rel => exact ⟨f, d + 1, m.nodes[k], rfl, by have := Hf.out; omega, by go_num, List.getElem_mem hk, HN.out, below_set7 (below_drewN HB1.out _) (Nat.le_succ _), Blk.far7 (HM1.out.drewN _) (by omega), _, _, _, _, _, _, (HX7.out.drewN _).store7⟩
            · have hdec : decide (x.id ∈ m.nodes[k].kids) = false := decide_eq_false hmem
              have E := Lib.hid (belB_no HE.out (bel_nokid hs HP.out (List.getElem_mem hk) HK1.out hmem))
              have HHD := Lib.hid (fun nq => same_flip (has_is hdec (has_any Sk' ck' m.nodes[k].kids x.id _ F (HROW.out nq) (by omega))))
              clear hmem hdec hw
              go_wp2
              go_quiet ((first | (go_at_call 54; exact Calls.quiet_of_same (HWD.out _)) | (go_at_call 55; exact Calls.quiet_of_same (HHD.out _))))
              go_wp2
              go_ret
              exact ⟨by rw [E.out]; rfl, below_drewN HB1.out _⟩
        · rw [hk2]
          have E := Lib.hid (belB_no HE.out (bel_none HP.out hk1))
          clear hk1 hk2
          go_wp2
          go_quiet (fail)
          go_wp2
          go_ret
          exact ⟨by rw [E.out]; rfl, below_drewN HB1.out _⟩
      · have hp1 : x.parent = 0 := beq_iff_eq.1 hp0
        have E := Lib.hid (belB_root HE.out hp1)
        clear hp1
        go_wp2
        go_ret
        exact ⟨by rw [E.out]; rfl, HB.out⟩
end Go.Proofs.YtpkapommekkbcaaDoor
end
