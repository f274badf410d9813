import Derived.Test.YtmafhaadcjgcbaaAClone
import Derived.Test.YtmafhaadcjgcbaaMut
import Derived.Laws.CopyOwn
set_option linter.unusedSimpArgs false
set_option linter.unusedVariables false
namespace Go.Proofs.Ytmafhaadcjgcbaa
open Go Go.RowKit

/-- a slice whose block may be written -/
def FreeV (w : World) (v : Value) : Prop := ∀ a n c, v = .slice (some a) n c → ∀ i, w.frozen? ⟨a.block, i, none⟩ = false
theorem FreeV.own {w : World} {base : Nat} {e : TypeId} {size : Nat} {v : Value} {n : Nat} {xs : List Value} (h : w.ownsRow base e size v n xs) : FreeV w v := by
  intro a m c hv i
  rcases h.2 with ⟨e0, _⟩ | ⟨g, cap, cur, e0, _, hh, _⟩
  · rw [e0] at hv; cases hv
  · rw [e0] at hv
    injection hv with e1
    injection e1 with e1
    subst e1
    simp [World.frozen?, hh]
theorem FreeV.set_ {w : World} {v : Value} (h : FreeV w v) (p : Addr) (u : Value) : FreeV (w.setCell p u) v := fun a n c e i => by
  rw [World.frozen?_setCell]; exact h a n c e i
theorem FreeV.blk {w : World} {g : Nat} {t : TypeId} {cs : Array Value} {n c : Nat} (h : Blk w g t cs) : FreeV w (.slice (some ⟨g, 0, none⟩) n c) := by
  intro a m k e i
  injection e with e1
  injection e1 with e1
  subst e1
  exact h.frozen i
theorem FreeV.below {w w' : World} {v : Value} {B : Nat} (h : FreeV w v) (hb : Below B w w') (hv : ∀ b, v.ownBlock = some b → b < B) (hs : ∀ a n c, v = .slice (some a) n c → v.ownBlock = some a.block) : FreeV w' v := fun a n c e i => by
  rw [World.frozen?_of_block (w := w) (a := ⟨a.block, i, none⟩) (hb.block a.block (hv _ (hs a n c e)))]; exact h a n c e i
theorem own_blk {w : World} {base : Nat} {e : TypeId} {size : Nat} {v : Value} {n : Nat} {xs : List Value} (h : w.ownsRow base e size v n xs) : ∀ a n c, v = .slice (some a) n c → v.ownBlock = some a.block := by
  intro a m c hv
  rcases h.2 with ⟨e0, _⟩ | ⟨g, cap, cur, e0, _⟩
  · rw [e0] at hv; cases hv
  · rw [e0] at hv ⊢
    injection hv with e1
    injection e1 with e1
    subst e1
    rfl

set_option maxRecDepth 100000 in
set_option maxHeartbeats 1600000 in
theorem own_any (n : ANode) (Sp Sk Sr : Option Addr) (cp ck cr : Nat) (w : World) (F : Nat → Prop) (hF : ∀ b, F b → b < w.heap.size) (hz : LensOK n) (hp : RowOf 2 EProp w F Sp n.props) (hk : RowOf 1 EInt w F Sk n.kids) (hr : RowOf 2 ERef w F Sr n.refs) :
    Calls Try.prog 71 #[.agg #[.int .i64 n.id, .string n.concept, .int .i64 n.parent, .string n.role, .slice Sp n.props.length cp, .slice Sk n.kids.length ck, .slice Sr n.refs.length cr]] w fun e w' => ∃ vp vk vr, e = .returned (.agg #[.int .i64 n.id, .string n.concept, .int .i64 n.parent, .string n.role, vp, vk, vr]) ∧ IsRow 2 EProp w' (fun b => w.heap.size ≤ b ∧ b < w'.heap.size) vp n.props ∧ IsRow 1 EInt w' (fun b => w.heap.size ≤ b ∧ b < w'.heap.size) vk n.kids ∧ IsRow 2 ERef w' (fun b => w.heap.size ≤ b ∧ b < w'.heap.size) vr n.refs ∧ Below w.heap.size w w' ∧ FreeV w' vp ∧ FreeV w' vk ∧ FreeV w' vr ∧ OwnL w' w.heap.size ⟨n, vp, vk, vr⟩ ∧ ∀ b, (LN.blocks ⟨n, vp, vk, vr⟩).count (some b) ≤ 1 := by
  obtain ⟨z1, z2, z3⟩ := hz
  have HP := Lib.hid hp; have HK := Lib.hid hk; have HR := Lib.hid hr
  clear hp hk hr
  go_enter Try.func71, Try.ntmps71
  go_wp2_with fail
  have hx0 := (Blk.new w 38 #[.int .i64 n.id, .string n.concept, .int .i64 n.parent, .string n.role, .slice Sp n.props.length cp, .slice Sk n.kids.length ck, .slice Sr n.refs.length cr]).alloc (.cells #[.int .i64 0, .string ⟨#[]⟩, .int .i64 0, .string ⟨#[]⟩, .slice none 0 0, .slice none 0 0, .slice none 0 0] 38)
  have hy0 := Blk.new' (w := w.alloc (.cells #[.int .i64 n.id, .string n.concept, .int .i64 n.parent, .string n.role, .slice Sp n.props.length cp, .slice Sk n.kids.length ck, .slice Sr n.refs.length cr] 38)) (g := w.heap.size + 1) (t := 38) (cs := #[.int .i64 0, .string ⟨#[]⟩, .int .i64 0, .string ⟨#[]⟩, .slice none 0 0, .slice none 0 0, .slice none 0 0]) (by simp)
  have hb0 := ((Below.refl w.heap.size w).alloc (Nat.le_refl _) (.cells #[.int .i64 n.id, .string n.concept, .int .i64 n.parent, .string n.role, .slice Sp n.props.length cp, .slice Sk n.kids.length ck, .slice Sr n.refs.length cr] 38)).alloc (by simp) (.cells #[.int .i64 0, .string ⟨#[]⟩, .int .i64 0, .string ⟨#[]⟩, .slice none 0 0, .slice none 0 0, .slice none 0 0] 38)
  have hs0 : ((w.alloc (.cells #[.int .i64 n.id, .string n.concept, .int .i64 n.parent, .string n.role, .slice Sp n.props.length cp, .slice Sk n.kids.length ck, .slice Sr n.refs.length cr] 38)).alloc (.cells #[.int .i64 0, .string ⟨#[]⟩, .int .i64 0, .string ⟨#[]⟩, .slice none 0 0, .slice none 0 0, .slice none 0 0] 38)).heap.size = w.heap.size + 2 := by simp
  generalize ((w.alloc (.cells #[.int .i64 n.id, .string n.concept, .int .i64 n.parent, .string n.role, .slice Sp n.props.length cp, .slice Sk n.kids.length ck, .slice Sr n.refs.length cr] 38)).alloc (.cells #[.int .i64 0, .string ⟨#[]⟩, .int .i64 0, .string ⟨#[]⟩, .slice none 0 0, .slice none 0 0, .slice none 0 0] 38)) = v at hx0 hy0 hb0 hs0 ⊢
  have HX := Lib.hid hx0; have HY := Lib.hid hy0; have HB := Lib.hid hb0
  have x4 := hx0.cell 4; have x6 := hx0.cell 6
  simp at x4 x6
  clear hx0 hy0 hb0
  refine wp_region_X (S := (fun w' => w'.cell? ⟨w.heap.size, 6, none⟩ = some (.slice Sr n.refs.length cr))) 9 (by kernel_rfl) (by exact x6) (fun hHeld => ?_)
  refine wpAnyX_take (i := 0) (v := ?_) rfl (by kernel_rfl) (by kernel_rfl) (by kernel_rfl) (by kernel_rfl) (fun _ _ _ h => h) (Or.inl ⟨by rfl, ?_⟩) (by assumption) ?_
  rotate_left 1
  · (intro w' hSw; go_simp); try with_reducible rfl
  try simp only [Act.put, List.setIfInBounds_toArray, List.set_cons_zero, List.set_cons_succ, Nat.zero_add]
  refine wpAnyX_take (i := 3) (v := ?_) rfl (by kernel_rfl) (by kernel_rfl) (by kernel_rfl) (by kernel_rfl) (fun _ _ _ h => h) (Or.inl ⟨by rfl, ?_⟩) (by assumption) ?_
  rotate_left 1
  · (intro w' hSw; go_simp); try with_reducible rfl
  try simp only [Act.put, List.setIfInBounds_toArray, List.set_cons_zero, List.set_cons_succ, Nat.zero_add]
  refine wpAnyX_take (i := 4) (v := ?_) rfl (by kernel_rfl) (by kernel_rfl) (by kernel_rfl) (by kernel_rfl) (fun _ _ _ h => h) (Or.inl ⟨by rfl, ?_⟩) (by assumption) ?_
  rotate_left 1
  · (intro w' hSw; go_simp); try with_reducible rfl
  try simp only [Act.put, List.setIfInBounds_toArray, List.set_cons_zero, List.set_cons_succ, Nat.zero_add]
  refine wpAnyX_one (i := 1) rfl (by kernel_rfl) (fun K hK => ?_)
  go_simp
  refine hK.out _ _ (fun _ => x6) ?_
  clear hK K
  try simp only [Act.put, List.setIfInBounds_toArray, List.set_cons_zero, List.set_cons_succ, Nat.zero_add]
  refine wpAnyX_one (i := 2) rfl (by kernel_rfl) (fun K hK => ?_)
  go_simp
  refine (cloneProps_any Sp cp n.props _ F (fun b hb => by have := hF b hb; simp; omega) ((HP.out.keep EProp.stays (Keep.below (HB.out.drew) hF) (fun _ h => h))) z1).mono ?_
  rintro _ w1 ⟨P1, c1, rfl, own1, hb1⟩
  have hb1' : Below v.heap.size v w1 := ((Below.refl v.heap.size v).drew).trans (by simpa using hb1)
  have HO1 := Lib.hid own1; have HB1 := Lib.hid hb1'
  clear own1 hb1 hb1'
  have x61 := (Below.cell HB1.out (p := ⟨w.heap.size, 6, none⟩) (by show w.heap.size < _; omega)).trans x6
  go_simp
  refine hK.out _ _ (fun _ => x61) ?_
  clear hK K
  try simp only [Act.put, List.setIfInBounds_toArray, List.set_cons_zero, List.set_cons_succ, Nat.zero_add]
  refine wpAnyX_take (i := 6) (v := ?_) rfl (by kernel_rfl) (by kernel_rfl) (by kernel_rfl) (by kernel_rfl) (fun _ _ _ h => h) (Or.inl ⟨by rfl, ?_⟩) (by assumption) ?_
  rotate_left 1
  · (intro w' hSw; go_simp); try with_reducible rfl
  try simp only [Act.put, List.setIfInBounds_toArray, List.set_cons_zero, List.set_cons_succ, Nat.zero_add]
  refine wpAnyX_one (i := 5) rfl (by kernel_rfl) (fun K hK => ?_)
  go_simp
  refine (cloneRefs_any Sr cr n.refs _ F (fun b hb => by have := hF b hb; have := HB1.out.size; omega) (HR.out.keep ERef.stays (Keep.below (HB.out.trans (HB1.out.mono (by omega))) hF) (fun _ h => h)) z3).mono ?_
  rintro _ w2 ⟨R1, d1, rfl, own2, hb2⟩
  have HO2 := Lib.hid own2; have HB2 := Lib.hid (HB1.out.trans (hb2.mono HB1.out.size)); have HB12 := Lib.hid hb2
  clear own2 hb2
  have x62 := (Below.cell HB2.out (p := ⟨w.heap.size, 6, none⟩) (by show w.heap.size < _; omega)).trans x6
  have HX2 := Lib.hid (HX.out.below HB2.out (by omega)); have HY2 := Lib.hid (HY.out.below HB2.out (by omega))
  have hlx := HX2.out.lt
  have hly := HY2.out.lt
  have y4 := HX2.out.cell 4
  have q4 := HX2.out.frozen 4
  have q6 := HX2.out.frozen 6
  simp at y4
  go_simp
  refine hK.out _ _ (fun _ => x62) ?_
  clear hK K
  try simp only [Act.put, List.setIfInBounds_toArray, List.set_cons_zero, List.set_cons_succ, Nat.zero_add]
  refine wpAnyX_one (i := 7) rfl (by kernel_rfl) (fun K hK => ?_)
  go_simp
  refine hK.out _ _ (fun _ => by have h := (HX2.out.set_ 4 (.slice P1 n.props.length c1)).cell 6; simpa using h) ?_
  clear hK K
  try simp only [Act.put, List.setIfInBounds_toArray, List.set_cons_zero, List.set_cons_succ, Nat.zero_add]
  refine wpAnyX_one (i := 8) rfl (by kernel_rfl) (fun K hK => ?_)
  go_simp
  refine hK.out _ _ (fun _ => by have h := (HX2.out.set_ 4 (.slice P1 n.props.length c1)).cell 6; simpa using h) ?_
  clear hK K
  try simp only [Act.put, List.setIfInBounds_toArray, List.set_cons_zero, List.set_cons_succ, Nat.zero_add]
  refine wpAnyX_one (i := 9) rfl (by kernel_rfl) (fun K hK => ?_)
  go_simp
  refine hK.out _ _ (fun h => absurd rfl h) ?_
  clear hK K
  try simp only [Act.put, List.setIfInBounds_toArray, List.set_cons_zero, List.set_cons_succ, Nat.zero_add]
  refine wpAnyX_done (by kernel_rfl) ?_ _
  have hx1 := (HX2.out.set_ 4 (.slice P1 n.props.length c1)).set_ 6 (.slice R1 n.refs.length d1)
  have hy1 := (HY2.out.far (p := ⟨w.heap.size, 4, none⟩) (by show w.heap.size + 1 ≠ w.heap.size; omega) (.slice P1 n.props.length c1)).far (p := ⟨w.heap.size, 6, none⟩) (by show w.heap.size + 1 ≠ w.heap.size; omega) (.slice R1 n.refs.length d1)
  have hbv := ((HB.out.trans (HB2.out.mono (by omega))).setCell (p := ⟨w.heap.size, 4, none⟩) (Nat.le_refl _) (.slice P1 n.props.length c1)).setCell (p := ⟨w.heap.size, 6, none⟩) (Nat.le_refl _) (.slice R1 n.refs.length d1)
  have hkv : Keep (fun b => w.heap.size + 2 ≤ b ∧ b < w2.heap.size) w2 ((w2.setCell ⟨w.heap.size, 4, none⟩ (.slice P1 n.props.length c1)).setCell ⟨w.heap.size, 6, none⟩ (.slice R1 n.refs.length d1)) := fun q hq => World.cell?_of_block ((Below.heap_setCell _ _ _ _ (by show q.block ≠ w.heap.size; omega)).trans (Below.heap_setCell _ _ _ _ (by show q.block ≠ w.heap.size; omega)))
  have hfz : ∀ a, ((w2.setCell ⟨w.heap.size, 4, none⟩ (.slice P1 n.props.length c1)).setCell ⟨w.heap.size, 6, none⟩ (.slice R1 n.refs.length d1)).frozen? a = w2.frozen? a := fun a => by simp
  have hkh : ∀ b, b ≠ w.heap.size → ((w2.setCell ⟨w.heap.size, 4, none⟩ (.slice P1 n.props.length c1)).setCell ⟨w.heap.size, 6, none⟩ (.slice R1 n.refs.length d1)).heap[b]? = w2.heap[b]? := fun b hb => (Below.heap_setCell _ _ _ _ hb).trans (Below.heap_setCell _ _ _ _ hb)
  have hsz : ((w2.setCell ⟨w.heap.size, 4, none⟩ (.slice P1 n.props.length c1)).setCell ⟨w.heap.size, 6, none⟩ (.slice R1 n.refs.length d1)).heap.size = w2.heap.size := by simp
  generalize ((w2.setCell ⟨w.heap.size, 4, none⟩ (.slice P1 n.props.length c1)).setCell ⟨w.heap.size, 6, none⟩ (.slice R1 n.refs.length d1)) = v1 at hx1 hy1 hbv hkv hsz hfz hkh ⊢
  have HX3 := Lib.hid hx1; have HY3 := Lib.hid hy1; have HB3 := Lib.hid hbv; have HK3 := Lib.hid hkv
  have HFZ := Lib.hid hfz; have HKH := Lib.hid hkh
  have c5 := hx1.cell 5
  simp at c5
  clear hx1 hy1 hbv hkv hfz hkh x4 x6 x61 x62 y4 q4 q6 hHeld
  have hmk : ∀ w0, (Instr.makeSlice 35 (.int .i64 n.kids.length) (.int .i64 n.kids.length)).run Try.prog w0 = .ok (.slice (some ⟨w0.heap.size, 0, none⟩) n.kids.length n.kids.length) (w0.alloc (.cells (madeCells #[.int .i64 0] n.kids.length) 3)) := by
    intro w0
    obtain ⟨i, hi, hz, hsize, hby⟩ := info_parts int_info
    have := run_make (P := Try.prog) w0 35 3 i (.int .i64 0) Try.underlying35 hi hz .i64 .i64 n.kids.length n.kids.length (by omega) (by omega) (by rw [hby]; omega) (by omega)
    rw [hsize] at this
    simpa [Value.cells] using this
  have hlv : w.heap.size < v1.heap.size := by omega
  have HN := Lib.hid (Blk.new v1 3 (madeCells #[.int .i64 0] n.kids.length))
  have HX4 := Lib.hid (HX3.out.alloc (.cells (madeCells #[.int .i64 0] n.kids.length) 3))
  have HY4 := Lib.hid (HY3.out.alloc (.cells (madeCells #[.int .i64 0] n.kids.length) 3))
  have HB4 := Lib.hid ((Below.refl v1.heap.size v1).alloc (Nat.le_refl _) (.cells (madeCells #[.int .i64 0] n.kids.length) 3))
  have HK4 := Lib.hid (HK.out.keep EInt.stays (Keep.below ((HB3.out).trans (HB4.out.mono (by omega))) hF) (fun _ h => h))
  have HSZ := Lib.hid hsz
  have hlv1 : w.heap.size + 1 < v1.heap.size := by omega
  clear hsz
  have hcp : ∃ u v4, (Builtin.copy_ #[35, 35] 3 #[.slice (some ⟨v1.heap.size, 0, none⟩) n.kids.length n.kids.length, .slice Sk n.kids.length ck]).run Try.prog (v1.alloc (.cells (madeCells #[.int .i64 0] n.kids.length) 3)) = .ok u v4 ∧ Hid (Blk v4 v1.heap.size 3 (n.kids.flatMap intCells).toArray) ∧ Hid (Below v1.heap.size v1 v4) := by
    have hfl := flat_length intCells_len n.kids
    by_cases h0 : n.kids.length = 0
    · refine ⟨_, _, run_copy_none (P := Try.prog) _ _ _ _ 3 _ _ _ _ _ _ Try.underlying35 (by kernel_rfl) (by simp [h0]), Lib.hid ?_, HB4⟩
      have e : n.kids = [] := List.eq_nil_of_length_eq_zero h0
      have := HN.out
      rw [e] at this
      rw [e]
      simpa [madeCells, Array.range_zero'] using this
    · obtain ⟨b, off, rfl, hb⟩ := HK.out.1 (by intro hn; rw [hn] at h0; simp at h0)
      refine ⟨_, _, run_copy_row (P := Try.prog) _ _ _ _ 3 _ _ _ _ _ _ _ _ _ (n.kids.flatMap intCells) Try.underlying35 (by kernel_rfl) HN.out (by rw [hfl]; simp) (HK4.out.cellsFrom intCells_len _ rfl) (by rw [hfl]; simp [madeCells]) (flat_one intCells_one _), Lib.hid ?_, Lib.hid (below_setRow HB4.out (Nat.le_refl _) _)⟩
      have h := setRow_heap (v1.alloc (.cells (madeCells #[.int .i64 0] n.kids.length) 3)) v1.heap.size _ (n.kids.flatMap intCells).toArray _ _ HN.out
      have e : ((madeCells #[.int .i64 0] n.kids.length).toList.take 0 ++ n.kids.flatMap intCells ++ (madeCells #[Value.int .i64 0] n.kids.length).toList.drop (0 + (n.kids.flatMap intCells).length)).toArray = (n.kids.flatMap intCells).toArray := by
        rw [hfl]; simp [madeCells]
      rw [e]
      exact h
  obtain ⟨u, v4, hcp, HN4, HB5⟩ := hcp
  have HX5 := Lib.hid (HX3.out.below HB5.out hlv)
  have HY5 := Lib.hid (HY3.out.below HB5.out hlv1)
  have d5 := HX5.out.cell 5; have z5 := HX5.out.frozen 5
  simp at d5
  have hl5 := HX5.out.lt
  have hy5 := HY5.out.lt
  have hx6 := HX5.out.set_ 5 (.slice (some ⟨v1.heap.size, 0, none⟩) n.kids.length n.kids.length)
  have e0 := HX5.out.cell 0; have e1 := HX5.out.cell 1; have e2 := HX5.out.cell 2; have e3 := HX5.out.cell 3; have e4 := HX5.out.cell 4; have e6 := HX5.out.cell 6
  simp at e0 e1 e2 e3 e4 e6
  have t0 := HY5.out.frozen 0; have t1 := HY5.out.frozen 1; have t2 := HY5.out.frozen 2; have t3 := HY5.out.frozen 3; have t4 := HY5.out.frozen 4; have t5 := HY5.out.frozen 5; have t6 := HY5.out.frozen 6
  have r0 := HY5.out.cell 0; have r1 := HY5.out.cell 1; have r2 := HY5.out.cell 2; have r3 := HY5.out.cell 3; have r4 := HY5.out.cell 4; have r5 := HY5.out.cell 5; have r6 := HY5.out.cell 6
  simp at r0 r1 r2 r3 r4 r5 r6
  clear hx6
  go_wp2_with fail
  have hyS := ((((((((HY5.out.far (p := ⟨w.heap.size, 5, none⟩) (by show w.heap.size + 1 ≠ w.heap.size; omega) (.slice (some ⟨v1.heap.size, 0, none⟩) n.kids.length n.kids.length)).set_ 0 (.int .i64 n.id)).set_ 1 (.string n.concept)).set_ 2 (.int .i64 n.parent)).set_ 3 (.string n.role)).set_ 4 (.slice P1 n.props.length c1)).set_ 5 (.slice (some ⟨v1.heap.size, 0, none⟩) n.kids.length n.kids.length)).set_ 6 (.slice R1 n.refs.length d1))
  have f0 := hyS.cell 0; have f1 := hyS.cell 1; have f2 := hyS.cell 2; have f3 := hyS.cell 3; have f4 := hyS.cell 4; have f5 := hyS.cell 5; have f6 := hyS.cell 6
  simp at f0 f1 f2 f3 f4 f5 f6
  have HBW := Lib.hid (((((((((HB3.out.trans (HB5.out.mono (Nat.le_of_lt hlv))).setCell (p := ⟨w.heap.size, 5, none⟩) (Nat.le_refl _) (.slice (some ⟨v1.heap.size, 0, none⟩) n.kids.length n.kids.length)).setCell (p := ⟨w.heap.size + 1, 0, none⟩) (Nat.le_succ _) (.int .i64 n.id)).setCell (p := ⟨w.heap.size + 1, 1, none⟩) (Nat.le_succ _) (.string n.concept)).setCell (p := ⟨w.heap.size + 1, 2, none⟩) (Nat.le_succ _) (.int .i64 n.parent)).setCell (p := ⟨w.heap.size + 1, 3, none⟩) (Nat.le_succ _) (.string n.role)).setCell (p := ⟨w.heap.size + 1, 4, none⟩) (Nat.le_succ _) (.slice P1 n.props.length c1)).setCell (p := ⟨w.heap.size + 1, 5, none⟩) (Nat.le_succ _) (.slice (some ⟨v1.heap.size, 0, none⟩) n.kids.length n.kids.length)).setCell (p := ⟨w.heap.size + 1, 6, none⟩) (Nat.le_succ _) (.slice R1 n.refs.length d1))
  refine bodyPost_ret (v := .agg #[.int .i64 n.id, .string n.concept, .int .i64 n.parent, .string n.role, .slice P1 n.props.length c1, .slice (some ⟨v1.heap.size, 0, none⟩) n.kids.length n.kids.length, .slice R1 n.refs.length d1]) (by simp [results, Try.results71, go_sem, f0, f1, f2, f3, f4, f5, f6]) rfl ⟨_, _, _, rfl, ?r1, ?r2, ?r3, HBW.out, ?f1, ?f2, ?f3, ⟨?o1, ?o2, ?o3⟩, cnt3 ?d1 ?d2 ?d3⟩
  case r1 =>
    have g1 := IsRow.of_own (F := fun b => w.heap.size + 2 ≤ b ∧ b < w1.heap.size) propCells_len HO1.out (fun b hb => by have := HO1.out.lt b hb; (try simp at this); omega)
    have g2 := g1.keep EProp.stays (F' := fun b => w.heap.size + 2 ≤ b ∧ b < w2.heap.size) (Keep.below HB12.out (fun b h => h.2)) (fun b h => ⟨h.1, Nat.lt_of_lt_of_le h.2 HB12.out.size⟩)
    have g3 := g2.keep EProp.stays (F' := fun b => w.heap.size + 2 ≤ b ∧ b < w2.heap.size) HK3.out (fun _ h => h)
    have g4 := g3.keep EProp.stays (F' := fun b => w.heap.size + 2 ≤ b ∧ b < v4.heap.size) (Keep.below HB5.out (fun b h => by have := HSZ.out; omega)) (fun b h => ⟨h.1, by have := HSZ.out; have := HB5.out.size; omega⟩)
    exact g4.keep EProp.stays (fun q hq => World.cell?_of_block ((Below.heap_setCell _ _ _ _ (by show q.block ≠ w.heap.size + 1; omega)).trans ((Below.heap_setCell _ _ _ _ (by show q.block ≠ w.heap.size + 1; omega)).trans ((Below.heap_setCell _ _ _ _ (by show q.block ≠ w.heap.size + 1; omega)).trans ((Below.heap_setCell _ _ _ _ (by show q.block ≠ w.heap.size + 1; omega)).trans ((Below.heap_setCell _ _ _ _ (by show q.block ≠ w.heap.size + 1; omega)).trans ((Below.heap_setCell _ _ _ _ (by show q.block ≠ w.heap.size + 1; omega)).trans ((Below.heap_setCell _ _ _ _ (by show q.block ≠ w.heap.size + 1; omega)).trans (Below.heap_setCell _ _ _ _ (by show q.block ≠ w.heap.size; omega)))))))))) (fun b h => ⟨by omega, by simpa using h.2⟩)
  case r3 =>
    have g2 := IsRow.of_own (F := fun b => w.heap.size + 2 ≤ b ∧ b < w2.heap.size) refCells_len HO2.out (fun b hb => by have := HO2.out.lt b hb; have := HB1.out.size; (try simp at this); omega)
    have g3 := g2.keep ERef.stays (F' := fun b => w.heap.size + 2 ≤ b ∧ b < w2.heap.size) HK3.out (fun _ h => h)
    have g4 := g3.keep ERef.stays (F' := fun b => w.heap.size + 2 ≤ b ∧ b < v4.heap.size) (Keep.below HB5.out (fun b h => by have := HSZ.out; omega)) (fun b h => ⟨h.1, by have := HSZ.out; have := HB5.out.size; omega⟩)
    exact g4.keep ERef.stays (fun q hq => World.cell?_of_block ((Below.heap_setCell _ _ _ _ (by show q.block ≠ w.heap.size + 1; omega)).trans ((Below.heap_setCell _ _ _ _ (by show q.block ≠ w.heap.size + 1; omega)).trans ((Below.heap_setCell _ _ _ _ (by show q.block ≠ w.heap.size + 1; omega)).trans ((Below.heap_setCell _ _ _ _ (by show q.block ≠ w.heap.size + 1; omega)).trans ((Below.heap_setCell _ _ _ _ (by show q.block ≠ w.heap.size + 1; omega)).trans ((Below.heap_setCell _ _ _ _ (by show q.block ≠ w.heap.size + 1; omega)).trans ((Below.heap_setCell _ _ _ _ (by show q.block ≠ w.heap.size + 1; omega)).trans (Below.heap_setCell _ _ _ _ (by show q.block ≠ w.heap.size; omega)))))))))) (fun b h => ⟨by omega, by simpa using h.2⟩)
  case r2 =>
    have hN := HN4.out
    have hlt := hN.lt
    have g4 : IsRow 1 EInt v4 (fun b => w.heap.size + 2 ≤ b ∧ b < v4.heap.size) (.slice (some ⟨v1.heap.size, 0, none⟩) n.kids.length n.kids.length) n.kids := by
      refine ⟨_, _, rfl, Nat.le_refl _, by unfold maxLen; omega, fun _ => ⟨_, 0, rfl, by have := HSZ.out; have := HB12.out.size; have := HB1.out.size; omega, hlt⟩, fun i hi => ⟨[.int .i64 n.kids[i]], rfl, rfl, fun b off e j hj => ?_⟩⟩
      cases e
      obtain rfl : j = 0 := by omega
      have h : n.kids.flatMap intCells = n.kids.map (fun x => Value.int .i64 x) := List.map_eq_flatMap.symm
      rw [h] at hN
      have := hN.cell i
      simpa [hi] using this
    exact g4.keep EInt.stays (fun q hq => World.cell?_of_block ((Below.heap_setCell _ _ _ _ (by show q.block ≠ w.heap.size + 1; omega)).trans ((Below.heap_setCell _ _ _ _ (by show q.block ≠ w.heap.size + 1; omega)).trans ((Below.heap_setCell _ _ _ _ (by show q.block ≠ w.heap.size + 1; omega)).trans ((Below.heap_setCell _ _ _ _ (by show q.block ≠ w.heap.size + 1; omega)).trans ((Below.heap_setCell _ _ _ _ (by show q.block ≠ w.heap.size + 1; omega)).trans ((Below.heap_setCell _ _ _ _ (by show q.block ≠ w.heap.size + 1; omega)).trans ((Below.heap_setCell _ _ _ _ (by show q.block ≠ w.heap.size + 1; omega)).trans (Below.heap_setCell _ _ _ _ (by show q.block ≠ w.heap.size; omega)))))))))) (fun b h => ⟨by omega, by simpa using h.2⟩)
  case f1 =>
    have h1 : FreeV w2 (.slice P1 n.props.length c1) := (FreeV.own HO1.out).below HB12.out (fun b hb => (HO1.out.lt b hb).2) (own_blk HO1.out)
    have h2 : FreeV v1 (.slice P1 n.props.length c1) := fun a k c e i => by rw [HFZ.out]; exact h1 a k c e i
    have h3 := h2.below HB5.out (fun b hb => by have := (HO1.out.lt b hb).2; have := HB12.out.size; have := HSZ.out; omega) (own_blk HO1.out)
    exact ((((((((h3.set_ _ _).set_ _ _).set_ _ _).set_ _ _).set_ _ _).set_ _ _).set_ _ _).set_ _ _)
  case f3 =>
    have h1 : FreeV w2 (.slice R1 n.refs.length d1) := FreeV.own HO2.out
    have h2 : FreeV v1 (.slice R1 n.refs.length d1) := fun a k c e i => by rw [HFZ.out]; exact h1 a k c e i
    have h3 := h2.below HB5.out (fun b hb => by have := (HO2.out.lt b hb).2; have := HSZ.out; omega) (own_blk HO2.out)
    exact ((((((((h3.set_ _ _).set_ _ _).set_ _ _).set_ _ _).set_ _ _).set_ _ _).set_ _ _).set_ _ _)
  case f2 =>
    have h3 : FreeV v4 (.slice (some ⟨v1.heap.size, 0, none⟩) n.kids.length n.kids.length) := FreeV.blk HN4.out
    exact ((((((((h3.set_ _ _).set_ _ _).set_ _ _).set_ _ _).set_ _ _).set_ _ _).set_ _ _).set_ _ _)
  case o1 =>
    refine own_weaken (own_keep HO1.out fun b hb => ?_) (by show w.heap.size ≤ v.heap.size; omega)
    have h1 := HO1.out.lt b hb
    have h2 := HB12.out.size; have h3 := HSZ.out
    (try simp at h1)
    exact ((Below.heap_setCell _ _ _ _ (by show b ≠ w.heap.size + 1; omega)).trans ((Below.heap_setCell _ _ _ _ (by show b ≠ w.heap.size + 1; omega)).trans ((Below.heap_setCell _ _ _ _ (by show b ≠ w.heap.size + 1; omega)).trans ((Below.heap_setCell _ _ _ _ (by show b ≠ w.heap.size + 1; omega)).trans ((Below.heap_setCell _ _ _ _ (by show b ≠ w.heap.size + 1; omega)).trans ((Below.heap_setCell _ _ _ _ (by show b ≠ w.heap.size + 1; omega)).trans ((Below.heap_setCell _ _ _ _ (by show b ≠ w.heap.size + 1; omega)).trans (Below.heap_setCell _ _ _ _ (by show b ≠ w.heap.size; omega))))))))).trans ((HB5.out.block b (by omega)).trans ((HKH.out b (by omega)).trans (HB12.out.block b h1.2)))
  case o3 =>
    refine own_weaken (own_keep HO2.out fun b hb => ?_) (by have := HB1.out.size; omega)
    have h1 := HO2.out.lt b hb
    have h2 := HB1.out.size; have h3 := HSZ.out
    (try simp at h1)
    exact ((Below.heap_setCell _ _ _ _ (by show b ≠ w.heap.size + 1; omega)).trans ((Below.heap_setCell _ _ _ _ (by show b ≠ w.heap.size + 1; omega)).trans ((Below.heap_setCell _ _ _ _ (by show b ≠ w.heap.size + 1; omega)).trans ((Below.heap_setCell _ _ _ _ (by show b ≠ w.heap.size + 1; omega)).trans ((Below.heap_setCell _ _ _ _ (by show b ≠ w.heap.size + 1; omega)).trans ((Below.heap_setCell _ _ _ _ (by show b ≠ w.heap.size + 1; omega)).trans ((Below.heap_setCell _ _ _ _ (by show b ≠ w.heap.size + 1; omega)).trans (Below.heap_setCell _ _ _ _ (by show b ≠ w.heap.size; omega))))))))).trans ((HB5.out.block b (by omega)).trans (HKH.out b (by omega)))
  case o2 =>
    have h0 : OwnI v4 w.heap.size (.slice (some ⟨v1.heap.size, 0, none⟩) n.kids.length n.kids.length) n.kids := own_of_blk HN4.out (by omega) (by unfold maxLen; omega)
    refine own_keep h0 fun b hb => ?_
    obtain rfl : v1.heap.size = b := by injection hb
    exact ((Below.heap_setCell _ _ _ _ (by show v1.heap.size ≠ w.heap.size + 1; omega)).trans ((Below.heap_setCell _ _ _ _ (by show v1.heap.size ≠ w.heap.size + 1; omega)).trans ((Below.heap_setCell _ _ _ _ (by show v1.heap.size ≠ w.heap.size + 1; omega)).trans ((Below.heap_setCell _ _ _ _ (by show v1.heap.size ≠ w.heap.size + 1; omega)).trans ((Below.heap_setCell _ _ _ _ (by show v1.heap.size ≠ w.heap.size + 1; omega)).trans ((Below.heap_setCell _ _ _ _ (by show v1.heap.size ≠ w.heap.size + 1; omega)).trans ((Below.heap_setCell _ _ _ _ (by show v1.heap.size ≠ w.heap.size + 1; omega)).trans (Below.heap_setCell _ _ _ _ (by show v1.heap.size ≠ w.heap.size; omega)))))))))
  case d1 =>
    intro b hb e
    have h1 := HO1.out.lt b hb
    obtain rfl : v1.heap.size = b := by injection e
    have h2 := HB12.out.size; have h3 := HSZ.out
    omega
  case d2 =>
    intro b hb e
    have h1 := HO1.out.lt b hb
    have h2 := HO2.out.lt b e
    omega
  case d3 =>
    intro b hb e
    have h1 := HO2.out.lt b e
    obtain rfl : v1.heap.size = b := by injection hb
    have h3 := HSZ.out
    omega
end Go.Proofs.Ytmafhaadcjgcbaa
