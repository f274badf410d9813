import Derived.Test.YtpkapommekkbcaaDoorMut
import Derived.Test.YtpkapommekkbcaaDoorRegX
set_option linter.unusedSimpArgs false
set_option linter.unusedVariables false
namespace Go.Proofs.YtpkapommekkbcaaDoor
open Go Go.RowKit

/-- a whole row appended to an empty one of the call's own -/
theorem wpList_dup {α : Type} {P : Program} (w : World) {size : Nat} {f : α → List Value} (hf : ∀ x, (f x).length = size) (h1 : ∀ x, ∀ u ∈ f x, u.oneCell' = true) {ops : Array Oper} {rest : List Oper} {o : Oper} {a : Act} {Q : Exit → Act → World → Prop} (hgd : o.guard = none) (s x : Operand) (t : TypeId)
    (ho : o.op = .call { callee := .builtin .append, args := #[s, x], argTypes := #[t, t] })
    (base : Nat) (e : TypeId) {z : Value} {bytes : Nat} (ht : P.underlying t = some (.slice e)) (hinfo : (P.info? e).map (fun i => (i.zero, i.size, i.bytes)) = some (some z, size, bytes)) (hzs : z.cells.size = size) (hsz : 0 < size)
    (v : Value) (hs : a.eval s = v) (hown : w.ownsRow base e size v 0 [])
    (A : Option Addr) (l : List α) (c : Nat) (F : Nat → Prop) (hx : a.eval x = .slice A l.length c) (hrow : RowOf size (EFlat f) w F A l)
    (h63 : l.length ≤ maxLen) (hbytes : l.length * bytes ≤ 140737488355328) (hbase : base ≤ w.heap.size)
    (h : ∀ A' c' w', w'.ownsRow base e size (.slice A' l.length c') l.length (l.flatMap f) → w.grownBy w' v.ownBlock → ((Value.slice A' l.length c').ownBlock = v.ownBlock ∨ (Value.slice A' l.length c').ownBlock = some w.heap.size) → wpList P ops Q rest (a.put o.dst (.slice A' l.length c')) w') : wpList P ops Q (o :: rest) a w := by
  refine wpList_append_from w hgd s x t ho base e ht hinfo hzs hsz v 0 [] hs hown A l.length c (l.flatMap f) hx (flat_length hf l) (fun e => by subst e; rw [hrow.none_nil]; rfl) (fun ad e => hrow.cellsFrom hf ad e) (fun u hu => ?_) (by omega) (by simpa using hbytes) hbase (fun A' c' w' h2 h3 h4 => ?_)
  · obtain ⟨y, _, hy⟩ := List.mem_flatMap.1 hu
    exact h1 y u hy
  · rw [Nat.zero_add] at h2 h4 ⊢
    rw [List.nil_append] at h2
    exact h A' c' w' h2 h3 h4

set_option maxRecDepth 100000 in
set_option maxHeartbeats 2000000 in
theorem rnode_any (n : ANode) (Sp Sk Sr : Option Addr) (cp ck cr : Nat) (w : World) (F : Nat → Prop) (hF : ∀ b, F b → b < w.heap.size) (hz : LensOK n) (hp : RowOf 2 EProp w F Sp n.props) (hk : RowOf 1 EInt w F Sk n.kids) (hr : RowOf 2 ERef w F Sr n.refs) :
    Calls Tryd.prog 9 #[.agg #[.int .i64 n.id, .string n.concept, .int .i64 n.parent, .string n.role, .slice Sp n.props.length cp, .slice Sk n.kids.length ck, .slice Sr n.refs.length cr]] w fun e w' => ∃ vp vk vr, e = .returned (.agg #[.int .i64 n.id, .string n.concept, .int .i64 n.parent, .string n.role, vp, vk, vr]) ∧ OwnL w' w.heap.size ⟨n, vp, vk, vr⟩ ∧ (∀ b, (LN.blocks ⟨n, vp, vk, vr⟩).count (some b) ≤ 1) ∧ Below w.heap.size w w' := by
  obtain ⟨z1, z2, z3⟩ := hz
  have HP := Lib.hid hp; have HK := Lib.hid hk; have HR := Lib.hid hr
  clear hp hk hr
  go_enter Tryd.func9, Tryd.ntmps9
  go_upto_region 1 with fail
  obtain ⟨u0, hu0⟩ : ∃ u : World, (w.alloc (.cells #[.int .i64 n.id, .string n.concept, .int .i64 n.parent, .string n.role, .slice Sp n.props.length cp, .slice Sk n.kids.length ck, .slice Sr n.refs.length cr] 37)).alloc (.cells #[.int .i64 0, .string ⟨#[]⟩, .int .i64 0, .string ⟨#[]⟩, .slice none 0 0, .slice none 0 0, .slice none 0 0] 37) = u := ⟨_, rfl⟩
  have HB0 : Hid (Below w.heap.size w u0) := Lib.hid (by rw [← hu0]; exact ((Below.refl w.heap.size w).alloc (Nat.le_refl _) _).alloc (by simp) _)
  have HS0 : Hid (u0.heap.size = w.heap.size + 2) := Lib.hid (by rw [← hu0]; simp)
  have HX0 : Hid (Blk u0 w.heap.size 37 #[.int .i64 n.id, .string n.concept, .int .i64 n.parent, .string n.role, .slice Sp n.props.length cp, .slice Sk n.kids.length ck, .slice Sr n.refs.length cr]) := Lib.hid (by rw [← hu0]; exact (Blk.new _ _ _).alloc _)
  have HY0 : Hid (Blk u0 (w.heap.size + 1) 37 #[.int .i64 0, .string ⟨#[]⟩, .int .i64 0, .string ⟨#[]⟩, .slice none 0 0, .slice none 0 0, .slice none 0 0]) := Lib.hid (by rw [← hu0]; exact Blk.new' (by simp))
  rw [hu0]
  clear hu0
  have x4 := HX0.out.cell 4
  have t4 := HX0.out.frozen 4
  have xl0 := HX0.out.lt
  simp at x4
  go_wp2_with (at_builtin; refine wpList_dup _ propCells_len propCells_one rfl (.tmp 3) (.tmp 5) 33 rfl u0.heap.size 57 Tryd.underlying33 prop_info rfl (by omega) (.slice (some ⟨u0.heap.size, 0, none⟩) 0 0) ?a01 ?a02 Sp n.props cp F ?a03 ?a04 ?a05 ?a06 ?a07 ?a08)
  case a01 => rfl
  case a02 => exact World.ownsRow_made _ #[] 0 (Nat.le_refl _) (by unfold maxLen; omega) rfl
  case a03 => rfl
  case a04 => exact HP.out.keep EProp.stays (Keep.below (HB0.out.alloc HB0.out.size _) hF) (fun _ h => h)
  case a05 => unfold maxLen; omega
  case a06 => omega
  case a07 => simp
  case a08 =>
    intro P1 c1 v0 own hg hat
    have gz := hg.size
    have hge : ∀ b, (Value.slice (some ⟨u0.heap.size, 0, none⟩) 0 0).ownBlock = some b → b = u0.heap.size := fun b e => by injection e with e; exact e.symm
    have HOp := Lib.hid own
    have HAp : Hid (∀ b, (Value.slice P1 n.props.length c1).ownBlock = some b → u0.heap.size ≤ b) := Lib.hid (fun b e => (own.lt b e).1)
    have hs0 := HS0.out
    have hu0 := HB0.out.size
    obtain ⟨u1, hu1⟩ : ∃ u : World, v0.setCell ⟨w.heap.size, 4, none⟩ (.slice P1 n.props.length c1) = u := ⟨_, rfl⟩
    have HKG : Hid (∀ b, b < u0.heap.size → b ≠ w.heap.size → u1.heap[b]? = u0.heap[b]?) := Lib.hid (fun b h1 h2 => by
      rw [← hu1]
      exact (Below.heap_setCell _ _ _ _ h2).trans ((hg.block b (by simp; omega) (fun e => by have := hge b e.symm; omega)).trans (Below.heap_alloc _ _ _ h1)))
    have HSZ0 : Hid (u0.heap.size < u1.heap.size) := Lib.hid (by rw [← hu1]; simp at gz ⊢; omega)
    have HX1 : Hid (Blk u1 w.heap.size 37 #[.int .i64 n.id, .string n.concept, .int .i64 n.parent, .string n.role, .slice P1 n.props.length c1, .slice Sk n.kids.length ck, .slice Sr n.refs.length cr]) := Lib.hid (by
      have h := ((HX0.out.alloc (.cells #[] 57)).grown hg (fun e => by have h1 := hge _ e.symm; have h2 := HX0.out.lt; omega)).set_ 4 (.slice P1 n.props.length c1)
      rw [← hu1]; simpa using h)
    have HY1 : Hid (Blk u1 (w.heap.size + 1) 37 #[.int .i64 0, .string ⟨#[]⟩, .int .i64 0, .string ⟨#[]⟩, .slice none 0 0, .slice none 0 0, .slice none 0 0]) := Lib.hid ((HKG.out _ HY0.out.lt (by omega)).trans HY0.out)
    have HB1 : Hid (Below w.heap.size w u1) := Lib.hid (by
      rw [← hu1]
      exact ((HB0.out.alloc HB0.out.size _).grown hg (by have := HB0.out.size; simp; omega) (fun b e => by have h1 := hge b e; have h2 := HB0.out.size; omega)).setCell (p := ⟨w.heap.size, 4, none⟩) (Nat.le_refl _) _)
    have HQp0 : Hid (u1.ownsRow u0.heap.size 57 2 (.slice P1 n.props.length c1) n.props.length (n.props.flatMap propCells)) := Lib.hid (own_keep own fun b e => by
      have := (own.lt b e).1
      rw [← hu1]; exact Below.heap_setCell _ _ _ _ (by show b ≠ w.heap.size; omega))
    have HSqp : Hid (∀ b, (Value.slice P1 n.props.length c1).ownBlock = some b → b < u1.heap.size) := Lib.hid (fun b e => (HQp0.out.lt b e).2)
    have hxv := (HX0.out.alloc (.cells #[] 57)).grown hg (fun e => by have h1 := hge _ e.symm; have h2 := HX0.out.lt; omega)
    have y4 := hxv.cell 4; have q4 := hxv.frozen 4
    simp at y4
    clear own hg hat hge gz HKG x4 t4 xl0 hxv
    go_upto_region 2 with fail
    (try rw [hu1])
    clear hu1 y4 q4
    have x5 := HX1.out.cell 5
    have t5 := HX1.out.frozen 5
    have xl1 := HX1.out.lt
    simp at x5
    go_wp2_with (at_builtin; refine wpList_dup _ intCells_len intCells_one rfl (.tmp 8) (.tmp 10) 34 rfl u1.heap.size 3 Tryd.underlying34 int_info rfl (by omega) (.slice (some ⟨u1.heap.size, 0, none⟩) 0 0) ?a11 ?a12 Sk n.kids ck F ?a13 ?a14 ?a15 ?a16 ?a17 ?a18)
    case a11 => rfl
    case a12 => exact World.ownsRow_made _ #[] 0 (Nat.le_refl _) (by unfold maxLen; omega) rfl
    case a13 => rfl
    case a14 => exact HK.out.keep EInt.stays (Keep.below (HB1.out.alloc HB1.out.size _) hF) (fun _ h => h)
    case a15 => unfold maxLen; omega
    case a16 => omega
    case a17 => simp
    case a18 =>
      intro K1 c2 v1 own hg hat
      have gz := hg.size
      have hge : ∀ b, (Value.slice (some ⟨u1.heap.size, 0, none⟩) 0 0).ownBlock = some b → b = u1.heap.size := fun b e => by injection e with e; exact e.symm
      have HOk := Lib.hid own
      have HAk : Hid (∀ b, (Value.slice K1 n.kids.length c2).ownBlock = some b → u1.heap.size ≤ b) := Lib.hid (fun b e => (own.lt b e).1)
      have hs1 := HS0.out
      have hu1 := HB1.out.size
      obtain ⟨u2, hu2⟩ : ∃ u : World, v1.setCell ⟨w.heap.size, 5, none⟩ (.slice K1 n.kids.length c2) = u := ⟨_, rfl⟩
      have HKG : Hid (∀ b, b < u1.heap.size → b ≠ w.heap.size → u2.heap[b]? = u1.heap[b]?) := Lib.hid (fun b h1 h2 => by
        rw [← hu2]
        exact (Below.heap_setCell _ _ _ _ h2).trans ((hg.block b (by simp; omega) (fun e => by have := hge b e.symm; omega)).trans (Below.heap_alloc _ _ _ h1)))
      have HSZ1 : Hid (u1.heap.size < u2.heap.size) := Lib.hid (by rw [← hu2]; simp at gz ⊢; omega)
      have HX2 : Hid (Blk u2 w.heap.size 37 #[.int .i64 n.id, .string n.concept, .int .i64 n.parent, .string n.role, .slice P1 n.props.length c1, .slice K1 n.kids.length c2, .slice Sr n.refs.length cr]) := Lib.hid (by
        have h := ((HX1.out.alloc (.cells #[] 3)).grown hg (fun e => by have h1 := hge _ e.symm; have h2 := HX1.out.lt; omega)).set_ 5 (.slice K1 n.kids.length c2)
        rw [← hu2]; simpa using h)
      have HY2 : Hid (Blk u2 (w.heap.size + 1) 37 #[.int .i64 0, .string ⟨#[]⟩, .int .i64 0, .string ⟨#[]⟩, .slice none 0 0, .slice none 0 0, .slice none 0 0]) := Lib.hid ((HKG.out _ HY1.out.lt (by omega)).trans HY1.out)
      have HB2 : Hid (Below w.heap.size w u2) := Lib.hid (by
        rw [← hu2]
        exact ((HB1.out.alloc HB1.out.size _).grown hg (by have := HB1.out.size; simp; omega) (fun b e => by have h1 := hge b e; have h2 := HB1.out.size; omega)).setCell (p := ⟨w.heap.size, 5, none⟩) (Nat.le_refl _) _)
      have HQk1 : Hid (u2.ownsRow u1.heap.size 3 1 (.slice K1 n.kids.length c2) n.kids.length (n.kids.flatMap intCells)) := Lib.hid (own_keep own fun b e => by
        have := (own.lt b e).1
        rw [← hu2]; exact Below.heap_setCell _ _ _ _ (by show b ≠ w.heap.size; omega))
      have HQp1 := Lib.hid (own_keep HQp0.out fun b e => HKG.out b (HQp0.out.lt b e).2 (by have h1 := (HQp0.out.lt b e).1; have h2 := HS0.out; have h3 := HSZ0.out; have h4 := HX1.out.lt; omega))
      have HSqk : Hid (∀ b, (Value.slice K1 n.kids.length c2).ownBlock = some b → b < u2.heap.size) := Lib.hid (fun b e => (HQk1.out.lt b e).2)
      have hxv := (HX1.out.alloc (.cells #[] 3)).grown hg (fun e => by have h1 := hge _ e.symm; have h2 := HX1.out.lt; omega)
      have y5 := hxv.cell 5; have q5 := hxv.frozen 5
      simp at y5
      clear own hg hat hge gz HKG x5 t5 xl1 hxv
      go_upto_region 3 with fail
      (try rw [hu2])
      clear hu2 y5 q5
      have x6 := HX2.out.cell 6
      have t6 := HX2.out.frozen 6
      have xl2 := HX2.out.lt
      simp at x6
      go_wp2_with (at_builtin; refine wpList_dup _ refCells_len refCells_one rfl (.tmp 13) (.tmp 15) 35 rfl u2.heap.size 60 Tryd.underlying35 ref_info rfl (by omega) (.slice (some ⟨u2.heap.size, 0, none⟩) 0 0) ?a21 ?a22 Sr n.refs cr F ?a23 ?a24 ?a25 ?a26 ?a27 ?a28)
      case a21 => rfl
      case a22 => exact World.ownsRow_made _ #[] 0 (Nat.le_refl _) (by unfold maxLen; omega) rfl
      case a23 => rfl
      case a24 => exact HR.out.keep ERef.stays (Keep.below (HB2.out.alloc HB2.out.size _) hF) (fun _ h => h)
      case a25 => unfold maxLen; omega
      case a26 => omega
      case a27 => simp
      case a28 =>
        intro R1 c3 v2 own hg hat
        have gz := hg.size
        have hge : ∀ b, (Value.slice (some ⟨u2.heap.size, 0, none⟩) 0 0).ownBlock = some b → b = u2.heap.size := fun b e => by injection e with e; exact e.symm
        have HOr := Lib.hid own
        have HAr : Hid (∀ b, (Value.slice R1 n.refs.length c3).ownBlock = some b → u2.heap.size ≤ b) := Lib.hid (fun b e => (own.lt b e).1)
        have hs2 := HS0.out
        have hu2 := HB2.out.size
        obtain ⟨u3, hu3⟩ : ∃ u : World, v2.setCell ⟨w.heap.size, 6, none⟩ (.slice R1 n.refs.length c3) = u := ⟨_, rfl⟩
        have HKG : Hid (∀ b, b < u2.heap.size → b ≠ w.heap.size → u3.heap[b]? = u2.heap[b]?) := Lib.hid (fun b h1 h2 => by
          rw [← hu3]
          exact (Below.heap_setCell _ _ _ _ h2).trans ((hg.block b (by simp; omega) (fun e => by have := hge b e.symm; omega)).trans (Below.heap_alloc _ _ _ h1)))
        have HSZ2 : Hid (u2.heap.size < u3.heap.size) := Lib.hid (by rw [← hu3]; simp at gz ⊢; omega)
        have HX3 : Hid (Blk u3 w.heap.size 37 #[.int .i64 n.id, .string n.concept, .int .i64 n.parent, .string n.role, .slice P1 n.props.length c1, .slice K1 n.kids.length c2, .slice R1 n.refs.length c3]) := Lib.hid (by
          have h := ((HX2.out.alloc (.cells #[] 60)).grown hg (fun e => by have h1 := hge _ e.symm; have h2 := HX2.out.lt; omega)).set_ 6 (.slice R1 n.refs.length c3)
          rw [← hu3]; simpa using h)
        have HY3 : Hid (Blk u3 (w.heap.size + 1) 37 #[.int .i64 0, .string ⟨#[]⟩, .int .i64 0, .string ⟨#[]⟩, .slice none 0 0, .slice none 0 0, .slice none 0 0]) := Lib.hid ((HKG.out _ HY2.out.lt (by omega)).trans HY2.out)
        have HB3 : Hid (Below w.heap.size w u3) := Lib.hid (by
          rw [← hu3]
          exact ((HB2.out.alloc HB2.out.size _).grown hg (by have := HB2.out.size; simp; omega) (fun b e => by have h1 := hge b e; have h2 := HB2.out.size; omega)).setCell (p := ⟨w.heap.size, 6, none⟩) (Nat.le_refl _) _)
        have HQr2 : Hid (u3.ownsRow u2.heap.size 60 2 (.slice R1 n.refs.length c3) n.refs.length (n.refs.flatMap refCells)) := Lib.hid (own_keep own fun b e => by
          have := (own.lt b e).1
          rw [← hu3]; exact Below.heap_setCell _ _ _ _ (by show b ≠ w.heap.size; omega))
        have HQp2 := Lib.hid (own_keep HQp1.out fun b e => HKG.out b (HQp1.out.lt b e).2 (by have h1 := (HQp1.out.lt b e).1; have h2 := HS0.out; have h3 := HSZ0.out; have h4 := HX2.out.lt; omega))
        have HQk2 := Lib.hid (own_keep HQk1.out fun b e => HKG.out b (HQk1.out.lt b e).2 (by have h1 := (HQk1.out.lt b e).1; have h2 := HS0.out; have h3 := HSZ0.out; have h4 := HX2.out.lt; omega))
        have HSqr : Hid (∀ b, (Value.slice R1 n.refs.length c3).ownBlock = some b → b < u3.heap.size) := Lib.hid (fun b e => (HQr2.out.lt b e).2)
        have hxv := (HX2.out.alloc (.cells #[] 60)).grown hg (fun e => by have h1 := hge _ e.symm; have h2 := HX2.out.lt; omega)
        have y6 := hxv.cell 6; have q6 := hxv.frozen 6
        simp at y6
        clear own hg hat hge gz HKG x6 t6 xl2 hxv
        have hu3e := hu3
        clear hu3
        have e0 := HX3.out.cell 0; have e1 := HX3.out.cell 1; have e2 := HX3.out.cell 2; have e3 := HX3.out.cell 3; have e4 := HX3.out.cell 4; have e5 := HX3.out.cell 5; have e6 := HX3.out.cell 6
        have t0 := HY3.out.frozen 0; have t1 := HY3.out.frozen 1; have t2 := HY3.out.frozen 2; have t3 := HY3.out.frozen 3; have t4 := HY3.out.frozen 4; have t5 := HY3.out.frozen 5; have t6 := HY3.out.frozen 6
        have r0 := HY3.out.cell 0; have r1 := HY3.out.cell 1; have r2 := HY3.out.cell 2; have r3 := HY3.out.cell 3; have r4 := HY3.out.cell 4; have r5 := HY3.out.cell 5; have r6 := HY3.out.cell 6
        have xl3 := HX3.out.lt; have yl3 := HY3.out.lt
        simp at e0 e1 e2 e3 e4 e5 e6 r0 r1 r2 r3 r4 r5 r6
        go_upto_region 4 with fail
        (try rw [hu3e])
        clear hu3e y6 q6
        go_wp2_with fail
        have hyS := (((((((HY3.out.set_ 0 (.int .i64 n.id)).set_ 1 (.string n.concept)).set_ 2 (.int .i64 n.parent)).set_ 3 (.string n.role)).set_ 4 (.slice P1 n.props.length c1)).set_ 5 (.slice K1 n.kids.length c2)).set_ 6 (.slice R1 n.refs.length c3))
        have f0 := hyS.cell 0; have f1 := hyS.cell 1; have f2 := hyS.cell 2; have f3 := hyS.cell 3; have f4 := hyS.cell 4; have f5 := hyS.cell 5; have f6 := hyS.cell 6
        simp at f0 f1 f2 f3 f4 f5 f6
        have HBW := Lib.hid (((((((HB3.out.setCell (p := ⟨w.heap.size + 1, 0, none⟩) (Nat.le_succ _) (.int .i64 n.id)).setCell (p := ⟨w.heap.size + 1, 1, none⟩) (Nat.le_succ _) (.string n.concept)).setCell (p := ⟨w.heap.size + 1, 2, none⟩) (Nat.le_succ _) (.int .i64 n.parent)).setCell (p := ⟨w.heap.size + 1, 3, none⟩) (Nat.le_succ _) (.string n.role)).setCell (p := ⟨w.heap.size + 1, 4, none⟩) (Nat.le_succ _) (.slice P1 n.props.length c1)).setCell (p := ⟨w.heap.size + 1, 5, none⟩) (Nat.le_succ _) (.slice K1 n.kids.length c2)).setCell (p := ⟨w.heap.size + 1, 6, none⟩) (Nat.le_succ _) (.slice R1 n.refs.length c3))
        have b0 := HB0.out.size; have b1 := HSZ0.out; have b2 := HSZ1.out; have b3 := HS0.out
        refine bodyPost_ret (v := .agg #[.int .i64 n.id, .string n.concept, .int .i64 n.parent, .string n.role, .slice P1 n.props.length c1, .slice K1 n.kids.length c2, .slice R1 n.refs.length c3]) (by simp [results, Tryd.results9, go_sem, f0, f1, f2, f3, f4, f5, f6]) rfl ⟨_, _, _, rfl, ⟨?_, ?_, ?_⟩, cnt3 ?_ ?_ ?_, HBW.out⟩
        · refine own_weaken (own_keep HQp2.out fun b e => ?_) (by omega)
          have := HAp.out b e
          exact ((Below.heap_setCell _ _ _ _ (by show b ≠ w.heap.size + 1; omega)).trans ((Below.heap_setCell _ _ _ _ (by show b ≠ w.heap.size + 1; omega)).trans ((Below.heap_setCell _ _ _ _ (by show b ≠ w.heap.size + 1; omega)).trans ((Below.heap_setCell _ _ _ _ (by show b ≠ w.heap.size + 1; omega)).trans ((Below.heap_setCell _ _ _ _ (by show b ≠ w.heap.size + 1; omega)).trans ((Below.heap_setCell _ _ _ _ (by show b ≠ w.heap.size + 1; omega)).trans (Below.heap_setCell _ _ _ _ (by show b ≠ w.heap.size + 1; omega))))))))
        · have hk2 : OwnI u3 u1.heap.size (.slice K1 n.kids.length c2) n.kids := by unfold OwnI; rw [← intCells_map]; exact HQk2.out
          refine own_weaken (own_keep hk2 fun b e => ?_) (by omega)
          have := HAk.out b e
          exact ((Below.heap_setCell _ _ _ _ (by show b ≠ w.heap.size + 1; omega)).trans ((Below.heap_setCell _ _ _ _ (by show b ≠ w.heap.size + 1; omega)).trans ((Below.heap_setCell _ _ _ _ (by show b ≠ w.heap.size + 1; omega)).trans ((Below.heap_setCell _ _ _ _ (by show b ≠ w.heap.size + 1; omega)).trans ((Below.heap_setCell _ _ _ _ (by show b ≠ w.heap.size + 1; omega)).trans ((Below.heap_setCell _ _ _ _ (by show b ≠ w.heap.size + 1; omega)).trans (Below.heap_setCell _ _ _ _ (by show b ≠ w.heap.size + 1; omega))))))))
        · refine own_weaken (own_keep HQr2.out fun b e => ?_) (by omega)
          have := HAr.out b e
          exact ((Below.heap_setCell _ _ _ _ (by show b ≠ w.heap.size + 1; omega)).trans ((Below.heap_setCell _ _ _ _ (by show b ≠ w.heap.size + 1; omega)).trans ((Below.heap_setCell _ _ _ _ (by show b ≠ w.heap.size + 1; omega)).trans ((Below.heap_setCell _ _ _ _ (by show b ≠ w.heap.size + 1; omega)).trans ((Below.heap_setCell _ _ _ _ (by show b ≠ w.heap.size + 1; omega)).trans ((Below.heap_setCell _ _ _ _ (by show b ≠ w.heap.size + 1; omega)).trans (Below.heap_setCell _ _ _ _ (by show b ≠ w.heap.size + 1; omega))))))))
        · exact fun b h1 h2 => by have := HSqp.out b h1; have := HAk.out b h2; omega
        · exact fun b h1 h2 => by have := HSqp.out b h1; have := HAr.out b h2; omega
        · exact fun b h1 h2 => by have := HSqk.out b h1; have := HAr.out b h2; omega
end Go.Proofs.YtpkapommekkbcaaDoor
