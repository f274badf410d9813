import Derived.Test.YtmafhaadcjgcbaaALentI
import Derived.Lib.SliceRun
import Derived.Test.YtmafhaadcjgcbaaMut
import Derived.Laws.CopyOwn
import Derived.Test.YtmafhaadcjgcbaaMut2
import Derived.Test.YtmafhaadcjgcbaaRegX
set_option linter.unusedSimpArgs false
set_option linter.unusedVariables false
section
namespace Go.Proofs.Ytmafhaadcjgcbaa
open Go Go.RowKit

set_option maxRecDepth 100000 in
set_option maxHeartbeats 800000 in
theorem cloneProps_any (S : Option Addr) (c : Nat) (l : List AProp) (w : World) (F : Nat → Prop) (hF : ∀ b, F b → b < w.heap.size) (h : RowOf 2 EProp w F S l) (hl : l.length * 32 ≤ 140737488351232) :
    Calls Try.prog 114 #[.slice S l.length c] w fun e w' => ∃ S' c', e = .returned (.slice S' l.length c') ∧ w'.ownsRow w.heap.size 85 2 (.slice S' l.length c') l.length (l.flatMap propCells) ∧ Below w.heap.size w w' := by
  have hnil := fun (w : World) (a : Option Addr) (n c n' c' : Nat) => Lib.run_eql_slice_nil (P := Try.prog) w 34 85 a n c n' c' Try.underlying34
  rcases S with _ | ad
  · obtain rfl := h.none_nil
    go_enter Try.func114, Try.ntmps114
    go_wp2
    go_ret
    exact ⟨none, 0, rfl, World.ownsRow_nil _ _ _ _, Below.refl _ _⟩
  · have HH := Lib.hid h
    have HC : Hid (∀ w', Below w.heap.size w w' → ∀ ad', some ad = some ad' → ∀ j u, (l.flatMap propCells)[j]? = some u → w'.cell? (ad'.add j) = some u) := Lib.hid (fun w' hb ad' hA => (RowOf.keep EProp.stays (F' := F) (Keep.below hb hF) (fun _ h => h) HH.out).cellsFrom propCells_len ad' hA)
    clear h
    go_enter Try.func114, Try.ntmps114
    go_wp2_with (at_builtin; refine wpList_append_from _ rfl (.tmp 5) (.tmp 6) 34 rfl w.heap.size 85 Try.underlying34 prop_info ?a1 ?a2 (.slice (some ⟨w.heap.size, 0, none⟩) 0 0) 0 [] ?a3 (World.ownsRow_made (base := w.heap.size) (e := 85) (size := 2) w #[] 0 (Nat.le_refl _) (Nat.zero_le _) rfl) (some ad) l.length c (l.flatMap propCells) ?a4 (flat_length propCells_len _) ?a5 (HC.out _ ((Below.refl w.heap.size w).alloc (Nat.le_refl _) (.cells #[] 85))) (flat_one propCells_one _) ?a6 ?a7 ?a8 ?a9)
    try (case a1 => rfl)
    try (case a2 => omega)
    try (case a3 => rfl)
    try (case a4 => rfl)
    try (case a5 => intro e; cases e)
    try (case a6 => unfold maxLen; omega)
    try (case a7 => omega)
    try (case a8 => simp)
    case a9 =>
      intro A' c' w' own' hg' _
      try simp only [Nat.zero_add, List.nil_append] at own'
      try simp only [Nat.zero_add, List.nil_append] at hg'
      have HO := Lib.hid own'
      have HB := Lib.hid (((Below.refl w.heap.size w).alloc (Nat.le_refl _) (.cells #[] 85)).grown hg' (by simp) (fun k e => by simp [Value.ownBlock] at e; omega))
      clear own' hg'
      go_wp2
      go_ret
      exact ⟨A', c', by simp, HO.out, HB.out⟩

set_option maxRecDepth 100000 in
set_option maxHeartbeats 800000 in
theorem cloneRefs_any (S : Option Addr) (c : Nat) (l : List ARef) (w : World) (F : Nat → Prop) (hF : ∀ b, F b → b < w.heap.size) (h : RowOf 2 ERef w F S l) (hl : l.length * 24 ≤ 140737488351232) :
    Calls Try.prog 115 #[.slice S l.length c] w fun e w' => ∃ S' c', e = .returned (.slice S' l.length c') ∧ w'.ownsRow w.heap.size 82 2 (.slice S' l.length c') l.length (l.flatMap refCells) ∧ Below w.heap.size w w' := by
  have hnil := fun (w : World) (a : Option Addr) (n c n' c' : Nat) => Lib.run_eql_slice_nil (P := Try.prog) w 36 82 a n c n' c' Try.underlying36
  rcases S with _ | ad
  · obtain rfl := h.none_nil
    go_enter Try.func115, Try.ntmps115
    go_wp2
    go_ret
    exact ⟨none, 0, rfl, World.ownsRow_nil _ _ _ _, Below.refl _ _⟩
  · have HH := Lib.hid h
    have HC : Hid (∀ w', Below w.heap.size w w' → ∀ ad', some ad = some ad' → ∀ j u, (l.flatMap refCells)[j]? = some u → w'.cell? (ad'.add j) = some u) := Lib.hid (fun w' hb ad' hA => (RowOf.keep ERef.stays (F' := F) (Keep.below hb hF) (fun _ h => h) HH.out).cellsFrom refCells_len ad' hA)
    clear h
    go_enter Try.func115, Try.ntmps115
    go_wp2_with (at_builtin; refine wpList_append_from _ rfl (.tmp 5) (.tmp 6) 36 rfl w.heap.size 82 Try.underlying36 ref_info ?a1 ?a2 (.slice (some ⟨w.heap.size, 0, none⟩) 0 0) 0 [] ?a3 (World.ownsRow_made (base := w.heap.size) (e := 82) (size := 2) w #[] 0 (Nat.le_refl _) (Nat.zero_le _) rfl) (some ad) l.length c (l.flatMap refCells) ?a4 (flat_length refCells_len _) ?a5 (HC.out _ ((Below.refl w.heap.size w).alloc (Nat.le_refl _) (.cells #[] 82))) (flat_one refCells_one _) ?a6 ?a7 ?a8 ?a9)
    try (case a1 => rfl)
    try (case a2 => omega)
    try (case a3 => rfl)
    try (case a4 => rfl)
    try (case a5 => intro e; cases e)
    try (case a6 => unfold maxLen; omega)
    try (case a7 => omega)
    try (case a8 => simp)
    case a9 =>
      intro A' c' w' own' hg' _
      try simp only [Nat.zero_add, List.nil_append] at own'
      try simp only [Nat.zero_add, List.nil_append] at hg'
      have HO := Lib.hid own'
      have HB := Lib.hid (((Below.refl w.heap.size w).alloc (Nat.le_refl _) (.cells #[] 82)).grown hg' (by simp) (fun k e => by simp [Value.ownBlock] at e; omega))
      clear own' hg'
      go_wp2
      go_ret
      exact ⟨A', c', by simp, HO.out, HB.out⟩
end Go.Proofs.Ytmafhaadcjgcbaa
end
section
namespace Go.Proofs.Ytmafhaadcjgcbaa
open Go Go.RowKit

/-- a slice whose block may be written -/
def FreeV (w : World) (v : Value) : Prop := ∀ a n c, v = .slice (some a) n c → ∀ i, w.frozen? ⟨a.block, i, none⟩ = false
theorem FreeV.own {w : World} {base : Nat} {e : TypeId} {size : Nat} {v : Value} {n : Nat} {xs : List Value} (h : w.ownsRow base e size v n xs) : FreeV w v := by
  intro a m c hv i
  rcases h.2 with ⟨e0, _⟩ | ⟨g, cap, cur, e0, _, hh, _⟩
  · rw [e0] at hv; cases hv
  · rw [e0] at hv
    injection hv with e1
    injection e1 with e1
    subst e1
    simp [World.frozen?, hh]
theorem FreeV.set_ {w : World} {v : Value} (h : FreeV w v) (p : Addr) (u : Value) : FreeV (w.setCell p u) v := fun a n c e i => by
  rw [World.frozen?_setCell]; exact h a n c e i
theorem FreeV.blk {w : World} {g : Nat} {t : TypeId} {cs : Array Value} {n c : Nat} (h : Blk w g t cs) : FreeV w (.slice (some ⟨g, 0, none⟩) n c) := by
  intro a m k e i
  injection e with e1
  injection e1 with e1
  subst e1
  exact h.frozen i
theorem FreeV.below {w w' : World} {v : Value} {B : Nat} (h : FreeV w v) (hb : Below B w w') (hv : ∀ b, v.ownBlock = some b → b < B) (hs : ∀ a n c, v = .slice (some a) n c → v.ownBlock = some a.block) : FreeV w' v := fun a n c e i => by
  rw [World.frozen?_of_block (w := w) (a := ⟨a.block, i, none⟩) (hb.block a.block (hv _ (hs a n c e)))]; exact h a n c e i
theorem own_blk {w : World} {base : Nat} {e : TypeId} {size : Nat} {v : Value} {n : Nat} {xs : List Value} (h : w.ownsRow base e size v n xs) : ∀ a n c, v = .slice (some a) n c → v.ownBlock = some a.block := by
  intro a m c hv
  rcases h.2 with ⟨e0, _⟩ | ⟨g, cap, cur, e0, _⟩
  · rw [e0] at hv; cases hv
  · rw [e0] at hv ⊢
    injection hv with e1
    injection e1 with e1
    subst e1
    rfl

set_option maxRecDepth 100000 in
set_option maxHeartbeats 1600000 in
theorem own_any (n : ANode) (Sp Sk Sr : Option Addr) (cp ck cr : Nat) (w : World) (F : Nat → Prop) (hF : ∀ b, F b → b < w.heap.size) (hz : LensOK n) (hp : RowOf 2 EProp w F Sp n.props) (hk : RowOf 1 EInt w F Sk n.kids) (hr : RowOf 2 ERef w F Sr n.refs) :
    Calls Try.prog 71 #[.agg #[.int .i64 n.id, .string n.concept, .int .i64 n.parent, .string n.role, .slice Sp n.props.length cp, .slice Sk n.kids.length ck, .slice Sr n.refs.length cr]] w fun e w' => ∃ vp vk vr, e = .returned (.agg #[.int .i64 n.id, .string n.concept, .int .i64 n.parent, .string n.role, vp, vk, vr]) ∧ IsRow 2 EProp w' (fun b => w.heap.size ≤ b ∧ b < w'.heap.size) vp n.props ∧ IsRow 1 EInt w' (fun b => w.heap.size ≤ b ∧ b < w'.heap.size) vk n.kids ∧ IsRow 2 ERef w' (fun b => w.heap.size ≤ b ∧ b < w'.heap.size) vr n.refs ∧ Below w.heap.size w w' ∧ FreeV w' vp ∧ FreeV w' vk ∧ FreeV w' vr ∧ OwnL w' w.heap.size ⟨n, vp, vk, vr⟩ ∧ ∀ b, (LN.blocks ⟨n, vp, vk, vr⟩).count (some b) ≤ 1 := by
  obtain ⟨z1, z2, z3⟩ := hz
  have HP := Lib.hid hp; have HK := Lib.hid hk; have HR := Lib.hid hr
  clear hp hk hr
  go_enter Try.func71, Try.ntmps71
  go_wp2_with fail
  have hx0 := (Blk.new w 38 #[.int .i64 n.id, .string n.concept, .int .i64 n.parent, .string n.role, .slice Sp n.props.length cp, .slice Sk n.kids.length ck, .slice Sr n.refs.length cr]).alloc (.cells #[.int .i64 0, .string ⟨#[]⟩, .int .i64 0, .string ⟨#[]⟩, .slice none 0 0, .slice none 0 0, .slice none 0 0] 38)
  have hy0 := Blk.new' (w := w.alloc (.cells #[.int .i64 n.id, .string n.concept, .int .i64 n.parent, .string n.role, .slice Sp n.props.length cp, .slice Sk n.kids.length ck, .slice Sr n.refs.length cr] 38)) (g := w.heap.size + 1) (t := 38) (cs := #[.int .i64 0, .string ⟨#[]⟩, .int .i64 0, .string ⟨#[]⟩, .slice none 0 0, .slice none 0 0, .slice none 0 0]) (by simp)
  have hb0 := ((Below.refl w.heap.size w).alloc (Nat.le_refl _) (.cells #[.int .i64 n.id, .string n.concept, .int .i64 n.parent, .string n.role, .slice Sp n.props.length cp, .slice Sk n.kids.length ck, .slice Sr n.refs.length cr] 38)).alloc (by simp) (.cells #[.int .i64 0, .string ⟨#[]⟩, .int .i64 0, .string ⟨#[]⟩, .slice none 0 0, .slice none 0 0, .slice none 0 0] 38)
  have hs0 : ((w.alloc (.cells #[.int .i64 n.id, .string n.concept, .int .i64 n.parent, .string n.role, .slice Sp n.props.length cp, .slice Sk n.kids.length ck, .slice Sr n.refs.length cr] 38)).alloc (.cells #[.int .i64 0, .string ⟨#[]⟩, .int .i64 0, .string ⟨#[]⟩, .slice none 0 0, .slice none 0 0, .slice none 0 0] 38)).heap.size = w.heap.size + 2 := by simp
  generalize ((w.alloc (.cells #[.int .i64 n.id, .string n.concept, .int .i64 n.parent, .string n.role, .slice Sp n.props.length cp, .slice Sk n.kids.length ck, .slice Sr n.refs.length cr] 38)).alloc (.cells #[.int .i64 0, .string ⟨#[]⟩, .int .i64 0, .string ⟨#[]⟩, .slice none 0 0, .slice none 0 0, .slice none 0 0] 38)) = v at hx0 hy0 hb0 hs0 ⊢
  have HX := Lib.hid hx0; have HY := Lib.hid hy0; have HB := Lib.hid hb0
  have x4 := hx0.cell 4; have x6 := hx0.cell 6
  simp at x4 x6
  clear hx0 hy0 hb0
  refine wp_region_X (S := (fun w' => w'.cell? ⟨w.heap.size, 6, none⟩ = some (.slice Sr n.refs.length cr))) 9 (by kernel_rfl) (by exact x6) (fun hHeld => ?_)
  refine wpAnyX_take (i := 0) (v := ?_) rfl (by kernel_rfl) (by kernel_rfl) (by kernel_rfl) (by kernel_rfl) (fun _ _ _ h => h) (Or.inl ⟨by rfl, ?_⟩) (by assumption) ?_
  rotate_left 1
  · (intro w' hSw; go_simp); try with_reducible rfl
  try simp only [Act.put, List.setIfInBounds_toArray, List.set_cons_zero, List.set_cons_succ, Nat.zero_add]
  refine wpAnyX_take (i := 3) (v := ?_) rfl (by kernel_rfl) (by kernel_rfl) (by kernel_rfl) (by kernel_rfl) (fun _ _ _ h => h) (Or.inl ⟨by rfl, ?_⟩) (by assumption) ?_
  rotate_left 1
  · (intro w' hSw; go_simp); try with_reducible rfl
  try simp only [Act.put, List.setIfInBounds_toArray, List.set_cons_zero, List.set_cons_succ, Nat.zero_add]
  refine wpAnyX_take (i := 4) (v := ?_) rfl (by kernel_rfl) (by kernel_rfl) (by kernel_rfl) (by kernel_rfl) (fun _ _ _ h => h) (Or.inl ⟨by rfl, ?_⟩) (by assumption) ?_
  rotate_left 1
  · (intro w' hSw; go_simp); try with_reducible rfl
  try simp only [Act.put, List.setIfInBounds_toArray, List.set_cons_zero, List.set_cons_succ, Nat.zero_add]
  refine wpAnyX_one (i := 1) rfl (by kernel_rfl) (fun K hK => ?_)
  go_simp
  refine hK.out _ _ (fun _ => x6) ?_
  clear hK K
  try simp only [Act.put, List.setIfInBounds_toArray, List.set_cons_zero, List.set_cons_succ, Nat.zero_add]
  refine wpAnyX_one (i := 2) rfl (by kernel_rfl) (fun K hK => ?_)
  go_simp
  refine (cloneProps_any Sp cp n.props _ F (fun b hb => by have := hF b hb; simp; omega) ((HP.out.keep EProp.stays (Keep.below (HB.out.drew) hF) (fun _ h => h))) z1).mono ?_
  rintro _ w1 ⟨P1, c1, rfl, own1, hb1⟩
  have hb1' : Below v.heap.size v w1 := ((Below.refl v.heap.size v).drew).trans (by simpa using hb1)
  have HO1 := Lib.hid own1; have HB1 := Lib.hid hb1'
  clear own1 hb1 hb1'
  have x61 := (Below.cell HB1.out (p := ⟨w.heap.size, 6, none⟩) (by show w.heap.size < _; omega)).trans x6
  go_simp
  refine hK.out _ _ (fun _ => x61) ?_
  clear hK K
  try simp only [Act.put, List.setIfInBounds_toArray, List.set_cons_zero, List.set_cons_succ, Nat.zero_add]
  refine wpAnyX_take (i := 6) (v := ?_) rfl (by kernel_rfl) (by kernel_rfl) (by kernel_rfl) (by kernel_rfl) (fun _ _ _ h => h) (Or.inl ⟨by rfl, ?_⟩) (by assumption) ?_
  rotate_left 1
  · (intro w' hSw; go_simp); try with_reducible rfl
  try simp only [Act.put, List.setIfInBounds_toArray, List.set_cons_zero, List.set_cons_succ, Nat.zero_add]
  refine wpAnyX_one (i := 5) rfl (by kernel_rfl) (fun K hK => ?_)
  go_simp
  refine (cloneRefs_any Sr cr n.refs _ F (fun b hb => by have := hF b hb; have := HB1.out.size; omega) (HR.out.keep ERef.stays (Keep.below (HB.out.trans (HB1.out.mono (by omega))) hF) (fun _ h => h)) z3).mono ?_
  rintro _ w2 ⟨R1, d1, rfl, own2, hb2⟩
  have HO2 := Lib.hid own2; have HB2 := Lib.hid (HB1.out.trans (hb2.mono HB1.out.size)); have HB12 := Lib.hid hb2
  clear own2 hb2
  have x62 := (Below.cell HB2.out (p := ⟨w.heap.size, 6, none⟩) (by show w.heap.size < _; omega)).trans x6
  have HX2 := Lib.hid (HX.out.below HB2.out (by omega)); have HY2 := Lib.hid (HY.out.below HB2.out (by omega))
  have hlx := HX2.out.lt
  have hly := HY2.out.lt
  have y4 := HX2.out.cell 4
  have q4 := HX2.out.frozen 4
  have q6 := HX2.out.frozen 6
  simp at y4
  go_simp
  refine hK.out _ _ (fun _ => x62) ?_
  clear hK K
  try simp only [Act.put, List.setIfInBounds_toArray, List.set_cons_zero, List.set_cons_succ, Nat.zero_add]
  refine wpAnyX_one (i := 7) rfl (by kernel_rfl) (fun K hK => ?_)
  go_simp
  refine hK.out _ _ (fun _ => by have h := (HX2.out.set_ 4 (.slice P1 n.props.length c1)).cell 6; simpa using h) ?_
  clear hK K
  try simp only [Act.put, List.setIfInBounds_toArray, List.set_cons_zero, List.set_cons_succ, Nat.zero_add]
  refine wpAnyX_one (i := 8) rfl (by kernel_rfl) (fun K hK => ?_)
  go_simp
  refine hK.out _ _ (fun _ => by have h := (HX2.out.set_ 4 (.slice P1 n.props.length c1)).cell 6; simpa using h) ?_
  clear hK K
  try simp only [Act.put, List.setIfInBounds_toArray, List.set_cons_zero, List.set_cons_succ, Nat.zero_add]
  refine wpAnyX_one (i := 9) rfl (by kernel_rfl) (fun K hK => ?_)
  go_simp
  refine hK.out _ _ (fun h => absurd rfl h) ?_
  clear hK K
  try simp only [Act.put, List.setIfInBounds_toArray, List.set_cons_zero, List.set_cons_succ, Nat.zero_add]
  refine wpAnyX_done (by kernel_rfl) ?_ _
  have hx1 := (HX2.out.set_ 4 (.slice P1 n.props.length c1)).set_ 6 (.slice R1 n.refs.length d1)
  have hy1 := (HY2.out.far (p := ⟨w.heap.size, 4, none⟩) (by show w.heap.size + 1 ≠ w.heap.size; omega) (.slice P1 n.props.length c1)).far (p := ⟨w.heap.size, 6, none⟩) (by show w.heap.size + 1 ≠ w.heap.size; omega) (.slice R1 n.refs.length d1)
  have hbv := ((HB.out.trans (HB2.out.mono (by omega))).setCell (p := ⟨w.heap.size, 4, none⟩) (Nat.le_refl _) (.slice P1 n.props.length c1)).setCell (p := ⟨w.heap.size, 6, none⟩) (Nat.le_refl _) (.slice R1 n.refs.length d1)
  have hkv : Keep (fun b => w.heap.size + 2 ≤ b ∧ b < w2.heap.size) w2 ((w2.setCell ⟨w.heap.size, 4, none⟩ (.slice P1 n.props.length c1)).setCell ⟨w.heap.size, 6, none⟩ (.slice R1 n.refs.length d1)) := fun q hq => World.cell?_of_block ((Below.heap_setCell _ _ _ _ (by show q.block ≠ w.heap.size; omega)).trans (Below.heap_setCell _ _ _ _ (by show q.block ≠ w.heap.size; omega)))
  have hfz : ∀ a, ((w2.setCell ⟨w.heap.size, 4, none⟩ (.slice P1 n.props.length c1)).setCell ⟨w.heap.size, 6, none⟩ (.slice R1 n.refs.length d1)).frozen? a = w2.frozen? a := fun a => by simp
  have hkh : ∀ b, b ≠ w.heap.size → ((w2.setCell ⟨w.heap.size, 4, none⟩ (.slice P1 n.props.length c1)).setCell ⟨w.heap.size, 6, none⟩ (.slice R1 n.refs.length d1)).heap[b]? = w2.heap[b]? := fun b hb => (Below.heap_setCell _ _ _ _ hb).trans (Below.heap_setCell _ _ _ _ hb)
  have hsz : ((w2.setCell ⟨w.heap.size, 4, none⟩ (.slice P1 n.props.length c1)).setCell ⟨w.heap.size, 6, none⟩ (.slice R1 n.refs.length d1)).heap.size = w2.heap.size := by simp
  generalize ((w2.setCell ⟨w.heap.size, 4, none⟩ (.slice P1 n.props.length c1)).setCell ⟨w.heap.size, 6, none⟩ (.slice R1 n.refs.length d1)) = v1 at hx1 hy1 hbv hkv hsz hfz hkh ⊢
  have HX3 := Lib.hid hx1; have HY3 := Lib.hid hy1; have HB3 := Lib.hid hbv; have HK3 := Lib.hid hkv
  have HFZ := Lib.hid hfz; have HKH := Lib.hid hkh
  have c5 := hx1.cell 5
  simp at c5
  clear hx1 hy1 hbv hkv hfz hkh x4 x6 x61 x62 y4 q4 q6 hHeld
  have hmk : ∀ w0, (Instr.makeSlice 35 (.int .i64 n.kids.length) (.int .i64 n.kids.length)).run Try.prog w0 = .ok (.slice (some ⟨w0.heap.size, 0, none⟩) n.kids.length n.kids.length) (w0.alloc (.cells (madeCells #[.int .i64 0] n.kids.length) 3)) := by
    intro w0
    obtain ⟨i, hi, hz, hsize, hby⟩ := info_parts int_info
    have := run_make (P := Try.prog) w0 35 3 i (.int .i64 0) Try.underlying35 hi hz .i64 .i64 n.kids.length n.kids.length (by omega) (by omega) (by rw [hby]; omega) (by omega)
    rw [hsize] at this
    simpa [Value.cells] using this
  have hlv : w.heap.size < v1.heap.size := by omega
  have HN := Lib.hid (Blk.new v1 3 (madeCells #[.int .i64 0] n.kids.length))
  have HX4 := Lib.hid (HX3.out.alloc (.cells (madeCells #[.int .i64 0] n.kids.length) 3))
  have HY4 := Lib.hid (HY3.out.alloc (.cells (madeCells #[.int .i64 0] n.kids.length) 3))
  have HB4 := Lib.hid ((Below.refl v1.heap.size v1).alloc (Nat.le_refl _) (.cells (madeCells #[.int .i64 0] n.kids.length) 3))
  have HK4 := Lib.hid (HK.out.keep EInt.stays (Keep.below ((HB3.out).trans (HB4.out.mono (by omega))) hF) (fun _ h => h))
  have HSZ := Lib.hid hsz
  have hlv1 : w.heap.size + 1 < v1.heap.size := by omega
  clear hsz
  have hcp : ∃ u v4, (Builtin.copy_ #[35, 35] 3 #[.slice (some ⟨v1.heap.size, 0, none⟩) n.kids.length n.kids.length, .slice Sk n.kids.length ck]).run Try.prog (v1.alloc (.cells (madeCells #[.int .i64 0] n.kids.length) 3)) = .ok u v4 ∧ Hid (Blk v4 v1.heap.size 3 (n.kids.flatMap intCells).toArray) ∧ Hid (Below v1.heap.size v1 v4) := by
    have hfl := flat_length intCells_len n.kids
    by_cases h0 : n.kids.length = 0
    · refine ⟨_, _, run_copy_none (P := Try.prog) _ _ _ _ 3 _ _ _ _ _ _ Try.underlying35 (by kernel_rfl) (by simp [h0]), Lib.hid ?_, HB4⟩
      have e : n.kids = [] := List.eq_nil_of_length_eq_zero h0
      have := HN.out
      rw [e] at this
      rw [e]
      simpa [madeCells, Array.range_zero'] using this
    · obtain ⟨b, off, rfl, hb⟩ := HK.out.1 (by intro hn; rw [hn] at h0; simp at h0)
      refine ⟨_, _, run_copy_row (P := Try.prog) _ _ _ _ 3 _ _ _ _ _ _ _ _ _ (n.kids.flatMap intCells) Try.underlying35 (by kernel_rfl) HN.out (by rw [hfl]; simp) (HK4.out.cellsFrom intCells_len _ rfl) (by rw [hfl]; simp [madeCells]) (flat_one intCells_one _), Lib.hid ?_, Lib.hid (below_setRow HB4.out (Nat.le_refl _) _)⟩
      have h := setRow_heap (v1.alloc (.cells (madeCells #[.int .i64 0] n.kids.length) 3)) v1.heap.size _ (n.kids.flatMap intCells).toArray _ _ HN.out
      have e : ((madeCells #[.int .i64 0] n.kids.length).toList.take 0 ++ n.kids.flatMap intCells ++ (madeCells #[Value.int .i64 0] n.kids.length).toList.drop (0 + (n.kids.flatMap intCells).length)).toArray = (n.kids.flatMap intCells).toArray := by
        rw [hfl]; simp [madeCells]
      rw [e]
      exact h
  obtain ⟨u, v4, hcp, HN4, HB5⟩ := hcp
  have HX5 := Lib.hid (HX3.out.below HB5.out hlv)
  have HY5 := Lib.hid (HY3.out.below HB5.out hlv1)
  have d5 := HX5.out.cell 5; have z5 := HX5.out.frozen 5
  simp at d5
  have hl5 := HX5.out.lt
  have hy5 := HY5.out.lt
  have hx6 := HX5.out.set_ 5 (.slice (some ⟨v1.heap.size, 0, none⟩) n.kids.length n.kids.length)
  have e0 := HX5.out.cell 0; have e1 := HX5.out.cell 1; have e2 := HX5.out.cell 2; have e3 := HX5.out.cell 3; have e4 := HX5.out.cell 4; have e6 := HX5.out.cell 6
  simp at e0 e1 e2 e3 e4 e6
  have t0 := HY5.out.frozen 0; have t1 := HY5.out.frozen 1; have t2 := HY5.out.frozen 2; have t3 := HY5.out.frozen 3; have t4 := HY5.out.frozen 4; have t5 := HY5.out.frozen 5; have t6 := HY5.out.frozen 6
  have r0 := HY5.out.cell 0; have r1 := HY5.out.cell 1; have r2 := HY5.out.cell 2; have r3 := HY5.out.cell 3; have r4 := HY5.out.cell 4; have r5 := HY5.out.cell 5; have r6 := HY5.out.cell 6
  simp at r0 r1 r2 r3 r4 r5 r6
  clear hx6
  go_wp2_with fail
  have hyS := ((((((((HY5.out.far (p := ⟨w.heap.size, 5, none⟩) (by show w.heap.size + 1 ≠ w.heap.size; omega) (.slice (some ⟨v1.heap.size, 0, none⟩) n.kids.length n.kids.length)).set_ 0 (.int .i64 n.id)).set_ 1 (.string n.concept)).set_ 2 (.int .i64 n.parent)).set_ 3 (.string n.role)).set_ 4 (.slice P1 n.props.length c1)).set_ 5 (.slice (some ⟨v1.heap.size, 0, none⟩) n.kids.length n.kids.length)).set_ 6 (.slice R1 n.refs.length d1))
  have f0 := hyS.cell 0; have f1 := hyS.cell 1; have f2 := hyS.cell 2; have f3 := hyS.cell 3; have f4 := hyS.cell 4; have f5 := hyS.cell 5; have f6 := hyS.cell 6
  simp at f0 f1 f2 f3 f4 f5 f6
  have HBW := Lib.hid (((((((((HB3.out.trans (HB5.out.mono (Nat.le_of_lt hlv))).setCell (p := ⟨w.heap.size, 5, none⟩) (Nat.le_refl _) (.slice (some ⟨v1.heap.size, 0, none⟩) n.kids.length n.kids.length)).setCell (p := ⟨w.heap.size + 1, 0, none⟩) (Nat.le_succ _) (.int .i64 n.id)).setCell (p := ⟨w.heap.size + 1, 1, none⟩) (Nat.le_succ _) (.string n.concept)).setCell (p := ⟨w.heap.size + 1, 2, none⟩) (Nat.le_succ _) (.int .i64 n.parent)).setCell (p := ⟨w.heap.size + 1, 3, none⟩) (Nat.le_succ _) (.string n.role)).setCell (p := ⟨w.heap.size + 1, 4, none⟩) (Nat.le_succ _) (.slice P1 n.props.length c1)).setCell (p := ⟨w.heap.size + 1, 5, none⟩) (Nat.le_succ _) (.slice (some ⟨v1.heap.size, 0, none⟩) n.kids.length n.kids.length)).setCell (p := ⟨w.heap.size + 1, 6, none⟩) (Nat.le_succ _) (.slice R1 n.refs.length d1))
  refine bodyPost_ret (v := .agg #[.int .i64 n.id, .string n.concept, .int .i64 n.parent, .string n.role, .slice P1 n.props.length c1, .slice (some ⟨v1.heap.size, 0, none⟩) n.kids.length n.kids.length, .slice R1 n.refs.length d1]) (by simp [results, Try.results71, go_sem, f0, f1, f2, f3, f4, f5, f6]) rfl ⟨_, _, _, rfl, ?r1, ?r2, ?r3, HBW.out, ?f1, ?f2, ?f3, ⟨?o1, ?o2, ?o3⟩, cnt3 ?d1 ?d2 ?d3⟩
  case r1 =>
    have g1 := IsRow.of_own (F := fun b => w.heap.size + 2 ≤ b ∧ b < w1.heap.size) propCells_len HO1.out (fun b hb => by have := HO1.out.lt b hb; (try simp at this); omega)
    have g2 := g1.keep EProp.stays (F' := fun b => w.heap.size + 2 ≤ b ∧ b < w2.heap.size) (Keep.below HB12.out (fun b h => h.2)) (fun b h => ⟨h.1, Nat.lt_of_lt_of_le h.2 HB12.out.size⟩)
    have g3 := g2.keep EProp.stays (F' := fun b => w.heap.size + 2 ≤ b ∧ b < w2.heap.size) HK3.out (fun _ h => h)
    have g4 := g3.keep EProp.stays (F' := fun b => w.heap.size + 2 ≤ b ∧ b < v4.heap.size) (Keep.below HB5.out (fun b h => by have := HSZ.out; omega)) (fun b h => ⟨h.1, by have := HSZ.out; have := HB5.out.size; omega⟩)
    exact g4.keep EProp.stays (fun q hq => World.cell?_of_block ((Below.heap_setCell _ _ _ _ (by show q.block ≠ w.heap.size + 1; omega)).trans ((Below.heap_setCell _ _ _ _ (by show q.block ≠ w.heap.size + 1; omega)).trans ((Below.heap_setCell _ _ _ _ (by show q.block ≠ w.heap.size + 1; omega)).trans ((Below.heap_setCell _ _ _ _ (by show q.block ≠ w.heap.size + 1; omega)).trans ((Below.heap_setCell _ _ _ _ (by show q.block ≠ w.heap.size + 1; omega)).trans ((Below.heap_setCell _ _ _ _ (by show q.block ≠ w.heap.size + 1; omega)).trans ((Below.heap_setCell _ _ _ _ (by show q.block ≠ w.heap.size + 1; omega)).trans (Below.heap_setCell _ _ _ _ (by show q.block ≠ w.heap.size; omega)))))))))) (fun b h => ⟨by omega, by simpa using h.2⟩)
  case r3 =>
    have g2 := IsRow.of_own (F := fun b => w.heap.size + 2 ≤ b ∧ b < w2.heap.size) refCells_len HO2.out (fun b hb => by have := HO2.out.lt b hb; have := HB1.out.size; (try simp at this); omega)
    have g3 := g2.keep ERef.stays (F' := fun b => w.heap.size + 2 ≤ b ∧ b < w2.heap.size) HK3.out (fun _ h => h)
    have g4 := g3.keep ERef.stays (F' := fun b => w.heap.size + 2 ≤ b ∧ b < v4.heap.size) (Keep.below HB5.out (fun b h => by have := HSZ.out; omega)) (fun b h => ⟨h.1, by have := HSZ.out; have := HB5.out.size; omega⟩)
    exact g4.keep ERef.stays (fun q hq => World.cell?_of_block ((Below.heap_setCell _ _ _ _ (by show q.block ≠ w.heap.size + 1; omega)).trans ((Below.heap_setCell _ _ _ _ (by show q.block ≠ w.heap.size + 1; omega)).trans ((Below.heap_setCell _ _ _ _ (by show q.block ≠ w.heap.size + 1; omega)).trans ((Below.heap_setCell _ _ _ _ (by show q.block ≠ w.heap.size + 1; omega)).trans ((Below.heap_setCell _ _ _ _ (by show q.block ≠ w.heap.size + 1; omega)).trans ((Below.heap_setCell _ _ _ _ (by show q.block ≠ w.heap.size + 1; omega)).trans ((Below.heap_setCell _ _ _ _ (by show q.block ≠ w.heap.size + 1; omega)).trans (Below.heap_setCell _ _ _ _ (by show q.block ≠ w.heap.size; omega)))))))))) (fun b h => ⟨by omega, by simpa using h.2⟩)
  case r2 =>
    have hN := HN4.out
    have hlt := hN.lt
    have g4 : IsRow 1 EInt v4 (fun b => w.heap.size + 2 ≤ b ∧ b < v4.heap.size) (.slice (some ⟨v1.heap.size, 0, none⟩) n.kids.length n.kids.length) n.kids := by
      refine ⟨_, _, rfl, Nat.le_refl _, by unfold maxLen; omega, fun _ => ⟨_, 0, rfl, by have := HSZ.out; have := HB12.out.size; have := HB1.out.size; omega, hlt⟩, fun i hi => ⟨[.int .i64 n.kids[i]], rfl, rfl, fun b off e j hj => ?_⟩⟩
      cases e
      obtain rfl : j = 0 := by omega
      have h : n.kids.flatMap intCells = n.kids.map (fun x => Value.int .i64 x) := List.map_eq_flatMap.symm
      rw [h] at hN
      have := hN.cell i
      simpa [hi] using this
    exact g4.keep EInt.stays (fun q hq => World.cell?_of_block ((Below.heap_setCell _ _ _ _ (by show q.block ≠ w.heap.size + 1; omega)).trans ((Below.heap_setCell _ _ _ _ (by show q.block ≠ w.heap.size + 1; omega)).trans ((Below.heap_setCell _ _ _ _ (by show q.block ≠ w.heap.size + 1; omega)).trans ((Below.heap_setCell _ _ _ _ (by show q.block ≠ w.heap.size + 1; omega)).trans ((Below.heap_setCell _ _ _ _ (by show q.block ≠ w.heap.size + 1; omega)).trans ((Below.heap_setCell _ _ _ _ (by show q.block ≠ w.heap.size + 1; omega)).trans ((Below.heap_setCell _ _ _ _ (by show q.block ≠ w.heap.size + 1; omega)).trans (Below.heap_setCell _ _ _ _ (by show q.block ≠ w.heap.size; omega)))))))))) (fun b h => ⟨by omega, by simpa using h.2⟩)
  case f1 =>
    have h1 : FreeV w2 (.slice P1 n.props.length c1) := (FreeV.own HO1.out).below HB12.out (fun b hb => (HO1.out.lt b hb).2) (own_blk HO1.out)
    have h2 : FreeV v1 (.slice P1 n.props.length c1) := fun a k c e i => by rw [HFZ.out]; exact h1 a k c e i
    have h3 := h2.below HB5.out (fun b hb => by have := (HO1.out.lt b hb).2; have := HB12.out.size; have := HSZ.out; omega) (own_blk HO1.out)
    exact ((((((((h3.set_ _ _).set_ _ _).set_ _ _).set_ _ _).set_ _ _).set_ _ _).set_ _ _).set_ _ _)
  case f3 =>
    have h1 : FreeV w2 (.slice R1 n.refs.length d1) := FreeV.own HO2.out
    have h2 : FreeV v1 (.slice R1 n.refs.length d1) := fun a k c e i => by rw [HFZ.out]; exact h1 a k c e i
    have h3 := h2.below HB5.out (fun b hb => by have := (HO2.out.lt b hb).2; have := HSZ.out; omega) (own_blk HO2.out)
    exact ((((((((h3.set_ _ _).set_ _ _).set_ _ _).set_ _ _).set_ _ _).set_ _ _).set_ _ _).set_ _ _)
  case f2 =>
    have h3 : FreeV v4 (.slice (some ⟨v1.heap.size, 0, none⟩) n.kids.length n.kids.length) := FreeV.blk HN4.out
    exact ((((((((h3.set_ _ _).set_ _ _).set_ _ _).set_ _ _).set_ _ _).set_ _ _).set_ _ _).set_ _ _)
  case o1 =>
    refine own_weaken (own_keep HO1.out fun b hb => ?_) (by show w.heap.size ≤ v.heap.size; omega)
    have h1 := HO1.out.lt b hb
    have h2 := HB12.out.size; have h3 := HSZ.out
    (try simp at h1)
    exact ((Below.heap_setCell _ _ _ _ (by show b ≠ w.heap.size + 1; omega)).trans ((Below.heap_setCell _ _ _ _ (by show b ≠ w.heap.size + 1; omega)).trans ((Below.heap_setCell _ _ _ _ (by show b ≠ w.heap.size + 1; omega)).trans ((Below.heap_setCell _ _ _ _ (by show b ≠ w.heap.size + 1; omega)).trans ((Below.heap_setCell _ _ _ _ (by show b ≠ w.heap.size + 1; omega)).trans ((Below.heap_setCell _ _ _ _ (by show b ≠ w.heap.size + 1; omega)).trans ((Below.heap_setCell _ _ _ _ (by show b ≠ w.heap.size + 1; omega)).trans (Below.heap_setCell _ _ _ _ (by show b ≠ w.heap.size; omega))))))))).trans ((HB5.out.block b (by omega)).trans ((HKH.out b (by omega)).trans (HB12.out.block b h1.2)))
  case o3 =>
    refine own_weaken (own_keep HO2.out fun b hb => ?_) (by have := HB1.out.size; omega)
    have h1 := HO2.out.lt b hb
    have h2 := HB1.out.size; have h3 := HSZ.out
    (try simp at h1)
    exact ((Below.heap_setCell _ _ _ _ (by show b ≠ w.heap.size + 1; omega)).trans ((Below.heap_setCell _ _ _ _ (by show b ≠ w.heap.size + 1; omega)).trans ((Below.heap_setCell _ _ _ _ (by show b ≠ w.heap.size + 1; omega)).trans ((Below.heap_setCell _ _ _ _ (by show b ≠ w.heap.size + 1; omega)).trans ((Below.heap_setCell _ _ _ _ (by show b ≠ w.heap.size + 1; omega)).trans ((Below.heap_setCell _ _ _ _ (by show b ≠ w.heap.size + 1; omega)).trans ((Below.heap_setCell _ _ _ _ (by show b ≠ w.heap.size + 1; omega)).trans (Below.heap_setCell _ _ _ _ (by show b ≠ w.heap.size; omega))))))))).trans ((HB5.out.block b (by omega)).trans (HKH.out b (by omega)))
  case o2 =>
    have h0 : OwnI v4 w.heap.size (.slice (some ⟨v1.heap.size, 0, none⟩) n.kids.length n.kids.length) n.kids := own_of_blk HN4.out (by omega) (by unfold maxLen; omega)
    refine own_keep h0 fun b hb => ?_
    obtain rfl : v1.heap.size = b := by injection hb
    exact ((Below.heap_setCell _ _ _ _ (by show v1.heap.size ≠ w.heap.size + 1; omega)).trans ((Below.heap_setCell _ _ _ _ (by show v1.heap.size ≠ w.heap.size + 1; omega)).trans ((Below.heap_setCell _ _ _ _ (by show v1.heap.size ≠ w.heap.size + 1; omega)).trans ((Below.heap_setCell _ _ _ _ (by show v1.heap.size ≠ w.heap.size + 1; omega)).trans ((Below.heap_setCell _ _ _ _ (by show v1.heap.size ≠ w.heap.size + 1; omega)).trans ((Below.heap_setCell _ _ _ _ (by show v1.heap.size ≠ w.heap.size + 1; omega)).trans ((Below.heap_setCell _ _ _ _ (by show v1.heap.size ≠ w.heap.size + 1; omega)).trans (Below.heap_setCell _ _ _ _ (by show v1.heap.size ≠ w.heap.size; omega)))))))))
  case d1 =>
    intro b hb e
    have h1 := HO1.out.lt b hb
    obtain rfl : v1.heap.size = b := by injection e
    have h2 := HB12.out.size; have h3 := HSZ.out
    omega
  case d2 =>
    intro b hb e
    have h1 := HO1.out.lt b hb
    have h2 := HO2.out.lt b e
    omega
  case d3 =>
    intro b hb e
    have h1 := HO2.out.lt b e
    obtain rfl : v1.heap.size = b := by injection hb
    have h3 := HSZ.out
    omega
end Go.Proofs.Ytmafhaadcjgcbaa
end
section
namespace Go.Proofs.Ytmafhaadcjgcbaa
open Go Go.RowKit

set_option maxRecDepth 100000 in
set_option maxHeartbeats 2000000 in
theorem twinA_any (A : Option Addr) (c : Nat) (m : AModel) (w : World) (F : Nat → Prop) (hF : ∀ b, F b → b < w.heap.size) (h : RowOf 7 ENode w F A m.nodes) (hz' : ∀ x ∈ m.nodes, LensOK x) (hl : m.nodes.length ≤ 1048576) :
    Calls Try.prog 82 #[.agg #[.int .i64 m.next, .slice A m.nodes.length c]] w fun e w' => ∃ v, e = .returned (.agg #[.int .i64 m.next, v]) ∧ ∃ l, OwnM w' w.heap.size v l ∧ l.map LN.n = m.nodes ∧ Below w.heap.size w w' := by
  have HH := Lib.hid h
  have HZ := Lib.hid hz'
  clear h hz'
  go_enter Try.func82, Try.ntmps82
  go_upto_region 2 with fail
  obtain ⟨u0, hu0⟩ : ∃ u : World, ((w.alloc (.cells #[.int .i64 m.next, .slice A m.nodes.length c] 24)).alloc (.cells #[.int .i64 0, .slice none 0 0] 24)).alloc (.cells #[.int .i64 m.next, .slice none 0 0] 24) = u := ⟨_, rfl⟩
  have HB0 : Hid (Below w.heap.size w u0) := Lib.hid (by rw [← hu0]; exact (((Below.refl w.heap.size w).alloc (Nat.le_refl _) _).alloc (by simp) _).alloc (by simp; omega) _)
  have HS0 : Hid (u0.heap.size = w.heap.size + 3) := Lib.hid (by rw [← hu0]; simp)
  have HM0 : Hid (Blk u0 w.heap.size 24 #[.int .i64 m.next, .slice A m.nodes.length c]) := Lib.hid (by rw [← hu0]; exact ((Blk.new _ _ _).alloc _).alloc _)
  have HR0 : Hid (Blk u0 (w.heap.size + 1) 24 #[.int .i64 0, .slice none 0 0]) := Lib.hid (by rw [← hu0]; exact (Blk.new' (by simp)).alloc _)
  have HO0 : Hid (Blk u0 (w.heap.size + 2) 24 #[.int .i64 m.next, .slice none 0 0]) := Lib.hid (by rw [← hu0]; exact Blk.new' (by simp))
  have m1 := HM0.out.cell 1
  have hmlt := HM0.out.lt
  simp at m1
  (try rw [hu0])
  clear hu0
  go_wp2_with fail
  clear m1 hmlt
  go_loopg [5, 12] m.nodes.length (fun g s5 s12 wx => ∃ (i : Nat) (v : Value) (l : List LN), s12 = .int .i64 i ∧ g = m.nodes.length - i ∧ i ≤ m.nodes.length ∧ Below w.heap.size w wx ∧ w.heap.size + 3 ≤ wx.heap.size ∧ Blk wx w.heap.size 24 #[.int .i64 m.next, .slice A m.nodes.length c] ∧ Blk wx (w.heap.size + 1) 24 #[.int .i64 0, .slice none 0 0] ∧ Blk wx (w.heap.size + 2) 24 #[.int .i64 m.next, v] ∧ OwnM wx (w.heap.size + 3) v l ∧ l.map LN.n = m.nodes.take i)
  case atStart => exact ⟨0, _, [], rfl, rfl, Nat.zero_le _, HB0.out, by rw [HS0.out]; exact Nat.le_refl _, HM0.out, HR0.out, HO0.out, OwnM.nil _ _, by simp⟩
  case round =>
    clear HB0 HS0 HM0 HR0 HO0
    obtain ⟨i, v, l, rfl, rfl, hil, hb, hsz3, hmb, hrb, hob, hown, hlm⟩ := hrel
    have hll : l.length = i := by have := congrArg List.length hlm; rw [List.length_map, List.length_take] at this; omega
    subst hll
    have HLM := Lib.hid hlm
    have HB := Lib.hid hb; have HM := Lib.hid hmb; have HR := Lib.hid hrb; have HO := Lib.hid hob; have HOWN := Lib.hid hown
    have hsz := hb.size
    have m1 := hmb.cell 1; have o0 := hob.cell 0; have o1 := hob.cell 1
    have hmlt := hmb.lt; have hrlt := hrb.lt; have holt := hob.lt
    simp at m1 o0 o1
    clear hb hmb hrb hob hown hlm
    by_cases hlt : l.length < m.nodes.length
    · have hlt' : (l.length : Int) < m.nodes.length := by omega
      have i0 : (0 : Int) ≤ (l.length : Int) := by omega
      obtain ⟨b, off, Sp, cp, Sk, ck, Sr, cr, rfl, hbF, d0, d1, d2, d3, d4, d5, d6, hp, hk, hr⟩ := node_at (RowOf.keep ENode.stays (Keep.below HB.out hF) (F' := F) (fun _ h => h) HH.out) hlt
      have hzx := HZ.out _ (List.getElem_mem hlt)
      have HTK : Hid (m.nodes.take (l.length + 1) = m.nodes.take l.length ++ [m.nodes[l.length]]) := Lib.hid (List.take_succ_eq_append_getElem hlt)
      obtain ⟨x, hx⟩ : ∃ x, m.nodes[l.length] = x := ⟨_, rfl⟩
      rw [hx] at d0 d1 d2 d3 d4 d5 d6 hp hk hr hzx HTK
      have HZX := Lib.hid hzx
      have HP := Lib.hid hp.2.2; have HK := Lib.hid hk.2.2; have HRR := Lib.hid hr.2.2
      have hbw : b < wr.heap.size := Nat.lt_of_lt_of_le (hF _ hbF) hsz
      clear hx hp hk hr hzx
      go_upto_region 5 with fail
      obtain ⟨p, hp⟩ : ∃ p, wr.heap.size = p := ⟨_, rfl⟩
      obtain ⟨u, hu⟩ : ∃ u : World, (wr.alloc (.cells #[.int .i64 x.id, .string x.concept, .int .i64 x.parent, .string x.role, .slice Sp x.props.length cp, .slice Sk x.kids.length ck, .slice Sr x.refs.length cr] 38)).drew = u := ⟨_, rfl⟩
      have HU : Hid (Below wr.heap.size wr u) := Lib.hid (by rw [← hu]; exact ((Below.refl _ _).alloc (Nat.le_refl _) _).drew)
      have HPB : Hid (Blk u p 38 #[.int .i64 x.id, .string x.concept, .int .i64 x.parent, .string x.role, .slice Sp x.props.length cp, .slice Sk x.kids.length ck, .slice Sr x.refs.length cr]) := Lib.hid (by rw [← hu, ← hp]; exact (Blk.new _ _ _).drew)
      have HBU := Lib.hid (HB.out.trans (HU.out.mono hsz))
      have HOU := Lib.hid (HO.out.below HU.out holt)
      have HMU := Lib.hid (HM.out.below HU.out hmlt)
      have HRU := Lib.hid (HR.out.below HU.out hrlt)
      have HWU := Lib.hid (HOWN.out.below HU.out)
      have HSU : Hid (∀ q, some q ∈ (v.ownBlock :: allBlocks l) → q < p) := Lib.hid (fun q hq => by rw [← hp]; exact (HOWN.out.lt q hq).2)
      have HPU : Hid (p ≤ u.heap.size ∧ w.heap.size + 3 ≤ p) := Lib.hid ⟨by have := HU.out.size; omega, by omega⟩
      clear d0 d1 d2 d3 d4 d5 d6 m1 o0 o1
      have HSS : Hid (∀ w', Blk w' (w.heap.size + 2) 24 #[.int .i64 m.next, v] → Blk w' p 38 #[.int .i64 x.id, .string x.concept, .int .i64 x.parent, .string x.role, .slice Sp x.props.length cp, .slice Sk x.kids.length ck, .slice Sr x.refs.length cr] → (fun w' => w'.cell? ⟨w.heap.size + 2, 1, none⟩ = some v ∧ w'.cell? ⟨p, 0, none⟩ = some (.int .i64 x.id) ∧ w'.cell? ⟨p, 1, none⟩ = some (.string x.concept) ∧ w'.cell? ⟨p, 2, none⟩ = some (.int .i64 x.parent) ∧ w'.cell? ⟨p, 3, none⟩ = some (.string x.role) ∧ w'.cell? ⟨p, 4, none⟩ = some (.slice Sp x.props.length cp) ∧ w'.cell? ⟨p, 5, none⟩ = some (.slice Sk x.kids.length ck) ∧ w'.cell? ⟨p, 6, none⟩ = some (.slice Sr x.refs.length cr)) w') := Lib.hid (fun w' h1 h2 => by
        have o1 := h1.cell 1
        have e0 := h2.cell 0; have e1 := h2.cell 1; have e2 := h2.cell 2; have e3 := h2.cell 3; have e4 := h2.cell 4; have e5 := h2.cell 5; have e6 := h2.cell 6
        simp at o1 e0 e1 e2 e3 e4 e5 e6
        exact ⟨o1, e0, e1, e2, e3, e4, e5, e6⟩)
      refine wp_region_X (S := (fun w' => w'.cell? ⟨w.heap.size + 2, 1, none⟩ = some v ∧ w'.cell? ⟨p, 0, none⟩ = some (.int .i64 x.id) ∧ w'.cell? ⟨p, 1, none⟩ = some (.string x.concept) ∧ w'.cell? ⟨p, 2, none⟩ = some (.int .i64 x.parent) ∧ w'.cell? ⟨p, 3, none⟩ = some (.string x.role) ∧ w'.cell? ⟨p, 4, none⟩ = some (.slice Sp x.props.length cp) ∧ w'.cell? ⟨p, 5, none⟩ = some (.slice Sk x.kids.length ck) ∧ w'.cell? ⟨p, 6, none⟩ = some (.slice Sr x.refs.length cr))) 7 (by kernel_rfl) (by rw [hu]; exact HSS.out _ HOU.out HPB.out) (fun hHeld => ?_)
      rw [hu] at hHeld ⊢
      clear hu
      refine wpAnyX_take (i := 0) (v := ?_) rfl (by kernel_rfl) (by kernel_rfl) (by kernel_rfl) (by kernel_rfl) (fun _ _ _ h => h) (Or.inl ⟨by rfl, ?_⟩) (by assumption) ?_
      rotate_left 1
      · (intro w' hSw; obtain ⟨s0, s1, s2, s3, s4, s5, s6, s7⟩ := hSw; go_simp); try with_reducible rfl
      try simp only [Act.put, List.setIfInBounds_toArray, List.set_cons_zero, List.set_cons_succ, Nat.zero_add]
      refine wpAnyX_take (i := 1) (v := ?_) rfl (by kernel_rfl) (by kernel_rfl) (by kernel_rfl) (by kernel_rfl) (fun _ _ _ h => h) (Or.inl ⟨by rfl, ?_⟩) (by assumption) ?_
      rotate_left 1
      · (intro w' hSw; obtain ⟨s0, s1, s2, s3, s4, s5, s6, s7⟩ := hSw; go_simp); try with_reducible rfl
      try simp only [Act.put, List.setIfInBounds_toArray, List.set_cons_zero, List.set_cons_succ, Nat.zero_add]
      refine wpAnyX_take (i := 2) (v := ?_) rfl (by kernel_rfl) (by kernel_rfl) (by kernel_rfl) (by kernel_rfl) (fun _ _ _ h => h) (Or.inl ⟨by rfl, ?_⟩) (by assumption) ?_
      rotate_left 1
      · (intro w' hSw; obtain ⟨s0, s1, s2, s3, s4, s5, s6, s7⟩ := hSw; go_simp); try with_reducible rfl
      try simp only [Act.put, List.setIfInBounds_toArray, List.set_cons_zero, List.set_cons_succ, Nat.zero_add]
      refine wpAnyX_one (i := 3) rfl (by kernel_rfl) (fun K hK => ?_)
      go_simp
      refine (own_any x Sp Sk Sr cp ck cr u F (fun b hb => Nat.lt_of_lt_of_le (hF b hb) HBU.out.size) HZX.out (HP.out.keep EProp.stays (Keep.below HU.out (fun b hb => Nat.lt_of_lt_of_le (hF b hb) hsz)) (fun _ h => h)) (HK.out.keep EInt.stays (Keep.below HU.out (fun b hb => Nat.lt_of_lt_of_le (hF b hb) hsz)) (fun _ h => h)) (HRR.out.keep ERef.stays (Keep.below HU.out (fun b hb => Nat.lt_of_lt_of_le (hF b hb) hsz)) (fun _ h => h))).mono ?_
      rintro _ w4 ⟨vp, vk, vr, rfl, _, _, _, hb4, _, _, _, hol, hcn⟩
      have HB4 := Lib.hid (HBU.out.trans (hb4.mono HBU.out.size))
      have HO4 := Lib.hid (HOU.out.below hb4 HOU.out.lt)
      have HM4 := Lib.hid (HMU.out.below hb4 HMU.out.lt)
      have HR4 := Lib.hid (HRU.out.below hb4 HRU.out.lt)
      have HW4 := Lib.hid (HWU.out.below hb4)
      have HL4 := Lib.hid hol; have HC4 := Lib.hid hcn
      have HLT : Hid (∀ q, some q ∈ (LN.blocks ⟨x, vp, vk, vr⟩) → some q ∉ (v.ownBlock :: allBlocks l)) := Lib.hid (fun q h1 h2 => by
        have h3 := (hol.lt q h1).1; have h4 := HSU.out q h2; have h5 := HPU.out.1; omega)
      obtain ⟨Ap, np, rfl⟩ : ∃ A c, vp = .slice A x.props.length c := own_shape hol.p
      obtain ⟨Ak, nk, rfl⟩ : ∃ A c, vk = .slice A x.kids.length c := hol.k.shape
      obtain ⟨Ar, nr, rfl⟩ : ∃ A c, vr = .slice A x.refs.length c := own_shape hol.r
      have HP4 := Lib.hid (HPB.out.below hb4 HPB.out.lt)
      clear hb4 hol hcn
      go_simp
      refine hK.out _ _ (fun _ => HSS.out _ HO4.out HP4.out) ?_
      clear hK K
      try simp only [Act.put, List.setIfInBounds_toArray, List.set_cons_zero, List.set_cons_succ, Nat.zero_add]
      refine wpAnyX_one (i := 4) rfl (by kernel_rfl) (fun K hK => ?_)
      go_simp
      obtain ⟨q, hq⟩ : ∃ q, w4.heap.size = q := ⟨_, rfl⟩
      obtain ⟨u5, hu5⟩ : ∃ u : World, w4.alloc (.cells #[.int .i64 x.id, .string x.concept, .int .i64 x.parent, .string x.role, .slice Ap x.props.length np, .slice Ak x.kids.length nk, .slice Ar x.refs.length nr] 38) = u := ⟨_, rfl⟩
      have HU5 : Hid (Below w4.heap.size w4 u5) := Lib.hid (by rw [← hu5]; exact (Below.refl _ _).alloc (Nat.le_refl _) _)
      have HQ5 : Hid (Blk u5 q 38 #[.int .i64 x.id, .string x.concept, .int .i64 x.parent, .string x.role, .slice Ap x.props.length np, .slice Ak x.kids.length nk, .slice Ar x.refs.length nr]) := Lib.hid (by rw [← hu5, ← hq]; exact Blk.new _ _ _)
      rw [hq, hu5]
      clear hu5 hq
      have HB5 := Lib.hid (HB4.out.trans (HU5.out.mono HB4.out.size))
      have HO5 := Lib.hid (HO4.out.below HU5.out HO4.out.lt)
      have HM5 := Lib.hid (HM4.out.below HU5.out HM4.out.lt)
      have HR5 := Lib.hid (HR4.out.below HU5.out HR4.out.lt)
      have HW5 := Lib.hid (HW4.out.below HU5.out)
      have HL5 := Lib.hid (HL4.out.keep (w' := u5) fun b hb => HU5.out.block b (HL4.out.lt b hb).2)
      have HP5 := Lib.hid (HP4.out.below HU5.out HP4.out.lt)
      clear HB4 HO4 HM4 HR4 HW4 HL4
      refine hK.out _ _ (fun _ => HSS.out _ HO5.out HP5.out) ?_
      clear hK K
      try simp only [Act.put, List.setIfInBounds_toArray, List.set_cons_zero, List.set_cons_succ, Nat.zero_add]
      refine wpAnyX_one (i := 5) rfl (by kernel_rfl) (fun K hK => ?_)
      have hb53 : w.heap.size + 3 ≤ u5.heap.size := by have := HQ5.out.lt; have := HU5.out.size; have := HO5.out.lt; omega
      refine step_append_from (P := Try.prog) u5 (by rfl) (.tmp 17) (.tmp 20) 22 (by rfl) (w.heap.size + 3) 38 Try.underlying22 node_info rfl (by omega) v l.length (l.flatMap LN.cells) (by rfl) HW5.out.row (some ⟨q, 0, none⟩) 1 1 (LN.cells ⟨x, .slice Ap x.props.length np, .slice Ak x.kids.length nk, .slice Ar x.refs.length nr⟩) (by rfl) (by rfl) (by simp) (fun ad e => by cases e; exact news_cells HQ5.out) (fun u hu => by simp only [LN.cells, nodeCellsA, List.mem_cons, List.not_mem_nil, or_false] at hu; rcases hu with rfl | rfl | rfl | rfl | rfl | rfl | rfl <;> rfl) (by unfold maxLen; omega) (by omega) hb53 ?_
      intro A6 c6 w6 own6 hg6 hat6
      have HW6 := Lib.hid (HW5.out.push (HL5.out.weaken (by have := HPU.out; omega)) HC4.out HLT.out own6 hg6 hat6)
      have hrow := fun k (e : v.ownBlock = some k) => (HW5.out.row.lt k e).1
      have HB6 := Lib.hid (HB5.out.grown hg6 HB5.out.size (fun k e => by have := hrow k e; omega))
      have HO6 := Lib.hid (HO5.out.grown hg6 (fun e => by have := hrow _ e.symm; omega))
      have HM6 := Lib.hid (HM5.out.grown hg6 (fun e => by have := hrow _ e.symm; omega))
      have HR6 := Lib.hid (HR5.out.grown hg6 (fun e => by have := hrow _ e.symm; omega))
      have HP6 := Lib.hid (HP5.out.grown hg6 (fun e => by have h1 := HSU.out p (by rw [← e]; exact List.mem_cons_self ..); omega))
      clear own6 hg6 hat6 hrow HB5 HO5 HM5 HR5 HW5 HL5
      refine hK.out _ _ (fun _ => HSS.out _ HO6.out HP6.out) ?_
      clear hK K
      try simp only [Act.put, List.setIfInBounds_toArray, List.set_cons_zero, List.set_cons_succ, Nat.zero_add]
      have hHeld2 := HSS.out _ HO6.out HP6.out
      refine wpAnyX_take (i := 6) (v := ?_) rfl (by kernel_rfl) (by kernel_rfl) (by kernel_rfl) (by kernel_rfl) (fun _ _ _ h => h) (Or.inl ⟨by rfl, ?_⟩) (by assumption) ?_
      rotate_left 1
      · (intro w' hSw; obtain ⟨s0, s1, s2, s3, s4, s5, s6, s7⟩ := hSw; go_simp); try with_reducible rfl
      try simp only [Act.put, List.setIfInBounds_toArray, List.set_cons_zero, List.set_cons_succ, Nat.zero_add]
      clear hHeld2
      refine wpAnyX_one (i := 7) rfl (by kernel_rfl) (fun K hK => ?_)
      have z0 := HO6.out.cell 1; have z1 := HO6.out.frozen 1
      simp at z0
      go_simp
      refine hK.out _ _ (fun h => absurd rfl h) ?_
      clear hK K z0 z1
      try simp only [Act.put, List.setIfInBounds_toArray, List.set_cons_zero, List.set_cons_succ, Nat.zero_add]
      refine wpAnyX_done (by kernel_rfl) ?_ _
      have hll2 : l.length + 1 = l.length + 1 := by omega
      have HB7 := Lib.hid (HB6.out.setCell (p := ⟨w.heap.size + 2, 1, none⟩) (by show w.heap.size ≤ w.heap.size + 2; omega) (.slice A6 (l.length + 1) c6))
      have HO7 := Lib.hid (HO6.out.set_ 1 (.slice A6 (l.length + 1) c6))
      have HM7 := Lib.hid (HM6.out.far (p := ⟨w.heap.size + 2, 1, none⟩) (by show w.heap.size ≠ w.heap.size + 2; omega) (.slice A6 (l.length + 1) c6))
      have HR7 := Lib.hid (HR6.out.far (p := ⟨w.heap.size + 2, 1, none⟩) (by show w.heap.size + 1 ≠ w.heap.size + 2; omega) (.slice A6 (l.length + 1) c6))
      have HW7 := Lib.hid (HW6.out.keep (w' := w6.setCell ⟨w.heap.size + 2, 1, none⟩ (.slice A6 (l.length + 1) c6)) (fun b h1 _ => Below.heap_setCell _ _ _ _ (by show b ≠ w.heap.size + 2; omega)))
      have HS7 : Hid (w.heap.size + 3 ≤ (w6.setCell ⟨w.heap.size + 2, 1, none⟩ (.slice A6 (l.length + 1) c6)).heap.size) := Lib.hid (by have := HO6.out.lt; simp; omega)
      generalize w6.setCell ⟨w.heap.size + 2, 1, none⟩ (.slice A6 (l.length + 1) c6) = w7 at HB7 HO7 HM7 HR7 HW7 HS7 ⊢
      clear hHeld HB6 HO6 HM6 HR6 HW6 hb53 hll2
      go_wp2
      go_roundg (m.nodes.length - (l.length + 1))
      case measure => omega
      case rel => exact ⟨l.length + 1, _, _, by go_num, rfl, by omega, HB7.out, HS7.out, HM7.out, HR7.out, by simpa using HO7.out, HW7.out, by rw [HTK.out, List.map_append, HLM.out]; rfl⟩
    · have hlt' : ¬ (l.length : Int) < m.nodes.length := by omega
      have t0 := HR.out.frozen 0; have t1 := HR.out.frozen 1
      have r0 := HR.out.cell 0; have r1 := HR.out.cell 1
      simp at r0 r1
      obtain ⟨Av, cv, rfl⟩ := own_shape HOWN.out.row
      go_wp2
      have hyS := (HR.out.set_ 0 (.int .i64 m.next)).set_ 1 (.slice Av l.length cv)
      have f0 := hyS.cell 0; have f1 := hyS.cell 1
      simp at f0 f1
      have HBW := Lib.hid ((HB.out.setCell (p := ⟨w.heap.size + 1, 0, none⟩) (Nat.le_succ _) (.int .i64 m.next)).setCell (p := ⟨w.heap.size + 1, 1, none⟩) (Nat.le_succ _) (.slice Av l.length cv))
      refine bodyPost_ret (v := .agg #[.int .i64 m.next, .slice Av l.length cv]) (by simp [results, Try.results82, go_sem, f0, f1]) rfl ⟨_, rfl, l, ?_, by rw [HLM.out, List.take_of_length_le (by omega)], HBW.out⟩
      refine (HOWN.out.keep (fun b h1 _ => ?_)).weaken (by omega)
      exact (Below.heap_setCell _ _ _ _ (by show b ≠ w.heap.size + 1; omega)).trans (Below.heap_setCell _ _ _ _ (by show b ≠ w.heap.size + 1; omega))
end Go.Proofs.Ytmafhaadcjgcbaa
end
