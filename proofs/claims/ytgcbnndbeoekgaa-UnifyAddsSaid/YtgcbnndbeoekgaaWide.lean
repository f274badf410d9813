import Derived.Test.YtgcbnndbeoekgaaFindB
import Derived.Test.YtgcbnndbeoekgaaRegY
set_option linter.unusedSimpArgs false
set_option linter.unusedVariables false
/- how many nodes some terms have: the law's terms, wide -/
namespace Go.Proofs.Ytgcbnndbeoekgaa
open Go Go.RowKit

theorem term_info : (Try.prog.info? 24).map (fun i => (i.zero, i.size, i.bytes)) = some (some (.agg #[.slice none 0 0]), 1, 24) := by kernel_rfl
theorem tn_info15 : (Try.prog.info? 66).map (fun i => (i.zero, i.size, i.bytes)) = some (some (.agg #[.int .i64 0, .string ⟨#[]⟩, .slice none 0 0]), 3, 48) := by kernel_rfl
def LenV (n : Nat) (u : Value) : Prop := ∃ S c, u = .slice S n c
inductive Lens : List Nat → List Value → Prop where
  | nil : Lens [] []
  | cons {n u ns us} : LenV n u → Lens ns us → Lens (n :: ns) (u :: us)
theorem Lens.app {ns us ms vs} (h : Lens ns us) (k : Lens ms vs) : Lens (ns ++ ms) (us ++ vs) := by
  induction h with
  | nil => exact k
  | cons h1 _ ih => exact .cons h1 ih
theorem Lens.len {ns us} (h : Lens ns us) : us.length = ns.length := by
  induction h with
  | nil => rfl
  | cons _ _ ih => simp [ih]
theorem Lens.at_ {ns us} (h : Lens ns us) : ∀ i (hi : i < ns.length), ∃ S c, us[i]? = some (.slice S ns[i] c) := by
  induction h with
  | nil => intro i hi; simp at hi
  | cons h1 _ ih =>
    intro i hi
    cases i with
    | zero => obtain ⟨S, c, rfl⟩ := h1; exact ⟨S, c, rfl⟩
    | succ i => simpa using ih i (by simpa using hi)
theorem Lens.one {ns us} (h : Lens ns us) : ∀ u ∈ us, u.oneCell' = true := by
  induction h with
  | nil => intro u hu; cases hu
  | cons h1 _ ih =>
    intro u hu
    rcases List.mem_cons.1 hu with e | e
    · obtain ⟨S, c, rfl⟩ := h1; subst e; rfl
    · exact ih u e
/-- terms of the call's own, of which their lengths are known -/
def LenRow (w : World) (base : Nat) (v : Value) (ns : List Nat) : Prop := ∃ us, w.ownsRow base 24 1 v ns.length us ∧ Lens ns us
section
variable {w w' : World} {base : Nat} {v : Value} {ns : List Nat}
theorem LenRow.kept {row : Option Nat} (h : LenRow w base v ns) (hg : w.grownBy w' row) (hne : v.ownBlock = none ∨ v.ownBlock ≠ row) : LenRow w' base v ns := let ⟨us, h1, h2⟩ := h; ⟨us, h1.kept hg hne, h2⟩
theorem LenRow.below (h : LenRow w base v ns) (hb : Below w.heap.size w w') : LenRow w' base v ns :=
  h.kept (row := none) ⟨hb.os, hb.tape, hb.output, hb.size, fun k hk _ => hb.block k hk⟩ (by cases hv : v.ownBlock <;> simp)
theorem LenRow.shape (h : LenRow w base v ns) : ∃ A c, v = .slice A ns.length c := let ⟨_, h1, _⟩ := h; own_shape h1
theorem LenRow.lt (h : LenRow w base v ns) : ∀ g, v.ownBlock = some g → base ≤ g ∧ g < w.heap.size := let ⟨_, h1, _⟩ := h; h1.lt
theorem LenRow.made (w : World) {base : Nat} (hb : base ≤ w.heap.size) : LenRow (w.alloc (.cells #[] 24)) base (.slice (some ⟨w.heap.size, 0, none⟩) 0 0) [] :=
  ⟨[], World.ownsRow_made (base := base) (e := 24) (size := 1) w #[] 0 hb (Nat.zero_le _) (by simp), .nil⟩
theorem LenRow.cell {A : Option Addr} {n c : Nat} (h : LenRow w base (.slice A n c) ns) {i : Nat} (hi : i < ns.length) : ∃ g S k, A = some ⟨g, 0, none⟩ ∧ base ≤ g ∧ g < w.heap.size ∧ w.cell? ⟨g, i, none⟩ = some (.slice S ns[i] k) := by
  obtain ⟨us, h1, h2⟩ := h
  obtain ⟨S, k, hu⟩ := h2.at_ i hi
  have hlt := h1.lt
  have hcells := fun g => h1.cells (g := g)
  rcases h1.2 with ⟨_, hn⟩ | ⟨g, cap, cur, e, _⟩
  · omega
  · injection e with e _ _
    subst e
    refine ⟨g, S, k, rfl, (hlt g rfl).1, (hlt g rfl).2, ?_⟩
    have := hcells g rfl i _ hu
    rw [add_some, Nat.zero_add] at this
    exact this
theorem wp_lens {o : Oper} {a : Act} {K : Act → World → Prop} {Q : Exit → Act → World → Prop} (w : World) (s x : Operand)
    (ho : o.op = .call { callee := .builtin .append, args := #[s, x], argTypes := #[35, 35] }) (v : Value) (hs : a.eval s = v) (hown : LenRow w base v ns) (g c : Nat) (ms : List Nat) (us : List Value) (hx : a.eval x = .slice (some ⟨g, 0, none⟩) ms.length c) (hblk : Blk w g 24 us.toArray) (hms : Lens ms us)
    (hl : ns.length + ms.length ≤ 1048576) (hbase : base ≤ w.heap.size)
    (h : ∀ A' c' w', LenRow w' base (.slice A' (ns.length + ms.length) c') (ns ++ ms) → w.grownBy w' v.ownBlock → K (a.put o.dst (.slice A' (ns.length + ms.length) c')) w') : o.wp Try.prog a w K Q := by
  obtain ⟨xs, h1, h2⟩ := hown
  exact wp_append_from w s x 35 ho base 24 Try.underlying35 term_info rfl (by omega) v ns.length xs hs h1 (some ⟨g, 0, none⟩) ms.length c us hx (by rw [hms.len]; omega) (by intro e; cases e)
    (fun ad e => by cases e; exact news_cells hblk) hms.one (by unfold maxLen; omega) (by omega) hbase
    fun A' c' w' g2 g3 _ => h A' c' w' ⟨xs ++ us, by simpa using g2, h2.app hms⟩ g3
theorem wpList_lens {ops : Array Oper} {rest : List Oper} {o : Oper} {a : Act} {Q : Exit → Act → World → Prop} (w : World) (hgd : o.guard = none) (s x : Operand)
    (ho : o.op = .call { callee := .builtin .append, args := #[s, x], argTypes := #[35, 35] }) (v : Value) (hs : a.eval s = v) (hown : LenRow w base v ns) (g c : Nat) (ms : List Nat) (us : List Value) (hx : a.eval x = .slice (some ⟨g, 0, none⟩) ms.length c) (hblk : Blk w g 24 us.toArray) (hms : Lens ms us)
    (hl : ns.length + ms.length ≤ 1048576) (hbase : base ≤ w.heap.size)
    (h : ∀ A' c' w', LenRow w' base (.slice A' (ns.length + ms.length) c') (ns ++ ms) → w.grownBy w' v.ownBlock → wpList Try.prog ops Q rest (a.put o.dst (.slice A' (ns.length + ms.length) c')) w') : wpList Try.prog ops Q (o :: rest) a w :=
  wpList_plain hgd fun _ hK => wp_lens w s x ho v hs hown g c ms us hx hblk hms hl hbase fun A' c' w' h2 h3 => hK _ _ (h A' c' w' h2 h3)
theorem step_lens {ops : Array Oper} {o : Oper} {a : Act} {K : Act → World → Prop} {Q : Exit → Act → World → Prop} {G : Prop} (w : World) (hgd : o.guard = none) (s x : Operand)
    (ho : o.op = .call { callee := .builtin .append, args := #[s, x], argTypes := #[35, 35] }) (v : Value) (hs : a.eval s = v) (hown : LenRow w base v ns) (g c : Nat) (ms : List Nat) (us : List Value) (hx : a.eval x = .slice (some ⟨g, 0, none⟩) ms.length c) (hblk : Blk w g 24 us.toArray) (hms : Lens ms us)
    (hl : ns.length + ms.length ≤ 1048576) (hbase : base ≤ w.heap.size)
    (h : ∀ A' c' w', LenRow w' base (.slice A' (ns.length + ms.length) c') (ns ++ ms) → w.grownBy w' v.ownBlock → K (a.put o.dst (.slice A' (ns.length + ms.length) c')) w') :
    if Region.wanted o (yielded ops a.tmps) = true then Oper.wp Try.prog o a w K Q else G := by
  rw [if_pos (by simp [Region.wanted, hgd])]
  exact wp_lens w s x ho v hs hown g c ms us hx hblk hms hl hbase h
end
def lensTo (ns : List Nat) (b : List ABind) (i : Nat) : List Nat := ns ++ (b.take i).flatMap fun x => [x.term.length, 1]
def lensOf (ns : List Nat) (b : List ABind) : List Nat := lensTo ns b 1000
theorem lensTo_next {ns : List Nat} {b : List ABind} {i : Nat} (h : i < b.length) : lensTo ns b (i + 1) = lensTo ns b i ++ [b[i].term.length, 1] := by
  unfold lensTo
  rw [List.take_succ_eq_append_getElem h, List.flatMap_append]; simp
theorem lensTo_len (ns : List Nat) (b : List ABind) (i : Nat) : (lensTo ns b i).length ≤ ns.length + 2 * i := by
  unfold lensTo
  have key : ∀ l : List ABind, (l.flatMap fun x => [x.term.length, 1]).length = 2 * l.length := by
    intro l
    induction l with
    | nil => rfl
    | cons x r ih => rw [List.flatMap_cons, List.length_append, ih]; simp; omega
  rw [List.length_append, key, List.length_take]; omega
theorem lensTo_end {ns : List Nat} {b : List ABind} {i : Nat} (hi : i ≤ 1000) (h : ¬ i < b.length ∨ ¬ i < 1000) : lensTo ns b i = lensOf ns b := by
  unfold lensOf lensTo
  rcases h with h | h
  · rw [List.take_of_length_le (by omega), List.take_of_length_le (by omega)]
  · rw [show i = 1000 by omega]
theorem run_make1 (w0 : World) : (Instr.makeSlice 22 (.int .i64 1) (.int .i64 1)).run Try.prog w0 = .ok (.slice (some ⟨w0.heap.size, 0, none⟩) 1 1) (w0.alloc (.cells (madeCells #[.int .i64 0, .string ⟨#[]⟩, .slice none 0 0] 3) 66)) := by
  obtain ⟨i, hi, hz, hsize, hby⟩ := info_parts tn_info15
  have := run_make (P := Try.prog) w0 22 66 i _ Try.underlying22 hi hz .i64 .i64 1 1 (by omega) (by omega) (by rw [hby]; omega) (by omega)
  rw [hsize] at this
  simpa [Value.cells] using this

set_option maxRecDepth 100000 in
set_option maxHeartbeats 4000000 in
theorem terms_any (A : Option Addr) (c : Nat) (bd : List ABind) (w : World) (F : Nat → Prop) (hF : ∀ b, F b → b < w.heap.size) (hr : RowOf 2 EBind w F A bd) (hlc : bd.length ≤ c) (hc : c ≤ maxLen) (g : Nat) (us : List Value) (ns : List Nat) (hg : Blk w g 24 us.toArray) (hu : Lens ns us) (hn : ns.length ≤ 1000) (cg : Nat) :
    Calls Try.prog 11 #[.slice A bd.length c, .slice (some ⟨g, 0, none⟩) ns.length cg] w fun e w' => ∃ v, e = .returned v ∧ LenRow w' w.heap.size v (lensOf ns bd) ∧ Below w.heap.size w w' := by
  have HR := Lib.hid hr; have HU := Lib.hid hu; have HGB := Lib.hid hg
  have hglt := hg.lt
  unfold maxLen at hc
  obtain ⟨nsl, hnsl⟩ : ∃ q, ns.length = q := ⟨_, rfl⟩
  have HNS := Lib.hid hnsl
  rw [hnsl] at hn ⊢
  clear hr hg hu hnsl
  have ho := World.ownsRow_made (base := w.heap.size) (e := 24) (size := 1) w #[] 0 (Nat.le_refl _) (Nat.zero_le _) (by simp)
  have HM0 : Hid (LenRow (w.alloc (.cells #[] 24)) w.heap.size (.slice (some ⟨w.heap.size, 0, none⟩) 0 0) []) := Lib.hid (LenRow.made w (Nat.le_refl _))
  clear ho
  go_enter Try.func11, Try.ntmps11
  go_wp2_with (at_builtin; refine wpList_lens _ rfl _ _ rfl _ rfl HM0.out g cg ns us (by rw [HNS.out]; rfl) (HGB.out.alloc _) HU.out (by rw [HNS.out]; simp; omega) (by simp) ?_)
  intro A1 c1 w1 hown hg1
  have HB1 : Hid (Below w.heap.size w w1) := Lib.hid (((Below.refl w.heap.size w).alloc (Nat.le_refl _) (.cells #[] 24)).grown hg1 (by simp) (fun k e => (HM0.out.lt k e).1))
  have HO1 : Hid (LenRow w1 w.heap.size (.slice A1 (List.length ([] : List Nat) + ns.length) c1) (lensTo ns bd 0)) := Lib.hid (by simpa [lensTo] using hown)
  clear hown hg1 HM0 HGB hglt
  go_upto_region 3 with fail
  go_loopg [5, 6] bd.length (fun g s5 s6 wx => ∃ i : Nat, s6 = .int .i64 i ∧ g = bd.length - i ∧ i ≤ bd.length ∧ i ≤ 1000 ∧ LenRow wx w.heap.size s5 (lensTo ns bd i) ∧ Below w.heap.size w wx)
  case atStart => exact ⟨0, rfl, rfl, Nat.zero_le _, by omega, by have := HO1.out; simpa using this, HB1.out⟩
  case round =>
    clear HB1 HO1
    obtain ⟨i, rfl, rfl, hi, hi2, hown, hb⟩ := hrel
    have HB := Lib.hid hb; have HO := Lib.hid hown
    obtain ⟨Av, cv, rfl⟩ := hown.shape
    have hll := lensTo_len ns bd i
    have hsz := hb.size
    obtain ⟨vl, hvl⟩ : ∃ q, (lensTo ns bd i).length = q := ⟨_, rfl⟩
    have HVL := Lib.hid hvl
    rw [hvl] at HO hll ⊢
    rw [HNS.out] at hll
    clear hown hvl
    have i0 : (0 : Int) ≤ i := by omega
    by_cases hlt : i < bd.length
    · by_cases h1000 : i < 1000
      · have hlt' : (i : Int) < bd.length := by omega
        have h1000' : (i : Int) < 1000 := by omega
        obtain ⟨b, off, S, k, rfl, hbF, _, d1, hk1, hk2, _⟩ := bind_at HR.out hlt
        have hbw := hF b hbF
        have HD : Hid (∀ w', Below w.heap.size w w' → w'.cell? ⟨b, off + i * 2 + 1, none⟩ = some (.slice S bd[i].term.length k) ∧ True) := Lib.hid (fun w' hb' => ⟨(hb'.cell (p := ⟨b, off + i * 2 + 1, none⟩) hbw).trans d1, trivial⟩)
        have HNEW := Lib.hid (lensTo_next (ns := ns) hlt)
        obtain ⟨tl, htl⟩ : ∃ q, bd[i].term.length = q := ⟨_, rfl⟩
        rw [htl] at HD HNEW
        clear htl d1 hk1 hk2 hb
        have hmk := run_make1
        go_upto_region 5 with fail
        obtain ⟨u, hu⟩ : ∃ u : World, wr.drew = u := ⟨_, rfl⟩
        have hbu : Below wr.heap.size wr u := by rw [← hu]; exact (Below.refl _ _).drew
        have HBU := Lib.hid (HB.out.trans (hbu.mono HB.out.size))
        have HOU := Lib.hid (HO.out.below hbu)
        clear hbu
        refine wp_region_Y (S := (fun w' : World => w'.cell? ⟨b, off + i * 2 + 1, none⟩ = some (.slice S tl k) ∧ True)) 10 (by kernel_rfl) (by rw [hu]; exact HD.out _ HBU.out) (fun hHeld => ?_)
        rw [hu] at hHeld ⊢
        clear hu
        refine wpAnyY_take (i := 0) (v := ?_) rfl (by kernel_rfl) (by kernel_rfl) (by kernel_rfl) (by kernel_rfl) (fun _ _ _ h => h) (Or.inl ⟨by rfl, ?_⟩) (by assumption) ?_
        rotate_left 1
        · (intro w' hSw; obtain ⟨s0, s1⟩ := hSw; go_simp); try with_reducible rfl
        try simp only [Act.put, List.setIfInBounds_toArray, List.set_cons_zero, List.set_cons_succ, Nat.zero_add]
        refine wpAnyY_take (i := 1) (v := ?_) rfl (by kernel_rfl) (by kernel_rfl) (by kernel_rfl) (by kernel_rfl) (fun _ _ _ h => h) (Or.inl ⟨by rfl, ?_⟩) (by assumption) ?_
        rotate_left 1
        · (intro w' hSw; obtain ⟨s0, s1⟩ := hSw; go_simp); try with_reducible rfl
        try simp only [Act.put, List.setIfInBounds_toArray, List.set_cons_zero, List.set_cons_succ, Nat.zero_add]
        refine wpAnyY_take (i := 2) (v := ?_) rfl (by kernel_rfl) (by kernel_rfl) (by kernel_rfl) (by kernel_rfl) (fun _ _ _ h => h) (Or.inl ⟨by rfl, ?_⟩) (by assumption) ?_
        rotate_left 1
        · (intro w' hSw; obtain ⟨s0, s1⟩ := hSw; go_simp); try with_reducible rfl
        try simp only [Act.put, List.setIfInBounds_toArray, List.set_cons_zero, List.set_cons_succ, Nat.zero_add]
        refine wpAnyY_take (i := 3) (v := ?_) rfl (by kernel_rfl) (by kernel_rfl) (by kernel_rfl) (by kernel_rfl) (fun _ _ _ h => h) (Or.inl ⟨by rfl, ?_⟩) (by assumption) ?_
        rotate_left 1
        · (intro w' hSw; obtain ⟨s0, s1⟩ := hSw; go_simp); try with_reducible rfl
        try simp only [Act.put, List.setIfInBounds_toArray, List.set_cons_zero, List.set_cons_succ, Nat.zero_add]
        refine wpAnyY_take (i := 4) (v := ?_) rfl (by kernel_rfl) (by kernel_rfl) (by kernel_rfl) (by kernel_rfl) (fun _ _ _ h => h) (Or.inl ⟨by rfl, ?_⟩) (by assumption) ?_
        rotate_left 1
        · (intro w' hSw; obtain ⟨s0, s1⟩ := hSw; go_simp); try with_reducible rfl
        try simp only [Act.put, List.setIfInBounds_toArray, List.set_cons_zero, List.set_cons_succ, Nat.zero_add]
        refine wpAnyY_take (i := 5) (v := ?_) rfl (by kernel_rfl) (by kernel_rfl) (by kernel_rfl) (by kernel_rfl) (fun _ _ _ h => h) (Or.inl ⟨by rfl, ?_⟩) (by assumption) ?_
        rotate_left 1
        · (intro w' hSw; obtain ⟨s0, s1⟩ := hSw; go_simp); try with_reducible rfl
        try simp only [Act.put, List.setIfInBounds_toArray, List.set_cons_zero, List.set_cons_succ, Nat.zero_add]
        refine wpAnyY_one (i := 6) rfl (by kernel_rfl) (fun K hK => ?_)
        obtain ⟨q6, hq6⟩ : ∃ x, u.heap.size = x := ⟨_, rfl⟩
        go_simp
        obtain ⟨w6, hnw⟩ : ∃ x : World, u.alloc (.cells (madeCells #[.int .i64 0, .string ⟨#[]⟩, .slice none 0 0] 3) 66) = x := ⟨_, rfl⟩
        have hb3 : Below u.heap.size u w6 := by rw [← hnw]; exact (Below.refl _ _).alloc (Nat.le_refl _) _
        have HBN6 := Lib.hid (HBU.out.trans (hb3.mono HBU.out.size))
        have HON6 := Lib.hid (HOU.out.below hb3)
        clear HBU HOU
        rw [hnw]
        try rw [hq6]
        clear hnw hb3 hq6 
        refine hK.out _ _ (fun _ => HD.out _ HBN6.out) ?_
        have hHeldN6 := HD.out _ HBN6.out
        clear hK K
        try simp only [Act.put, List.setIfInBounds_toArray, List.set_cons_zero, List.set_cons_succ, Nat.zero_add]
        refine wpAnyY_take (i := 7) (v := ?_) rfl (by kernel_rfl) (by kernel_rfl) (by kernel_rfl) (by kernel_rfl) (fun _ _ _ h => h) (Or.inl ⟨by rfl, ?_⟩) (by assumption) ?_
        rotate_left 1
        · (intro w' hSw; obtain ⟨s0, s1⟩ := hSw; go_simp); try with_reducible rfl
        try simp only [Act.put, List.setIfInBounds_toArray, List.set_cons_zero, List.set_cons_succ, Nat.zero_add]
        refine wpAnyY_one (i := 8) rfl (by kernel_rfl) (fun K hK => ?_)
        go_simp
        obtain ⟨w8, hnw⟩ : ∃ x : World, w6.alloc (.cells #[.slice S tl k, .slice (some ⟨q6, 0, none⟩) 1 1] 24) = x := ⟨_, rfl⟩
        have hb3 : Below w6.heap.size w6 w8 := by rw [← hnw]; exact (Below.refl _ _).alloc (Nat.le_refl _) _
        obtain ⟨qHK, hqHK⟩ : ∃ x, w6.heap.size = x := ⟨_, rfl⟩
        have HKN8 : Hid (Blk w8 qHK 24 #[.slice S tl k, .slice (some ⟨q6, 0, none⟩) 1 1]) := Lib.hid (by rw [← hnw]; exact Blk.new' hqHK.symm)
        have HBN8 := Lib.hid (HBN6.out.trans (hb3.mono HBN6.out.size))
        have HON8 := Lib.hid (HON6.out.below hb3)
        clear HBN6 HON6
        rw [hnw]
        try rw [hqHK]
        clear hnw hb3 hqHK
        refine hK.out _ _ (fun _ => HD.out _ HBN8.out) ?_
        have hHeldN8 := HD.out _ HBN8.out
        clear hK K
        try simp only [Act.put, List.setIfInBounds_toArray, List.set_cons_zero, List.set_cons_succ, Nat.zero_add]
        refine wpAnyY_one (i := 9) rfl (by kernel_rfl) (fun K hK => ?_)
        refine step_lens w8 rfl (.tmp 20) (.tmp 28) rfl (.slice Av vl cv) (by rfl) HON8.out qHK 2 [tl, 1] [.slice S tl k, .slice (some ⟨q6, 0, none⟩) 1 1] (by rfl) HKN8.out (.cons ⟨_, _, rfl⟩ (.cons ⟨_, _, rfl⟩ .nil)) (by rw [HVL.out]; simp; omega) HBN8.out.size ?_
        intro A9 c9 w9 hown9 hg9
        have HB9 : Hid (Below w.heap.size w w9) := Lib.hid (HBN8.out.grown hg9 HBN8.out.size (fun k e => (HON8.out.lt k e).1))
        have HO9 : Hid (LenRow w9 w.heap.size (.slice A9 ((lensTo ns bd i).length + [tl, 1].length) c9) (lensTo ns bd (i + 1))) := Lib.hid (by rw [HNEW.out]; exact hown9)
        clear hown9 hg9 HBN8 HON8 HKN8
        refine hK.out _ _ (fun _ => HD.out _ HB9.out) ?_
        have hHeld9 := HD.out _ HB9.out
        clear hK K
        try simp only [Act.put, List.setIfInBounds_toArray, List.set_cons_zero, List.set_cons_succ, Nat.zero_add]
        refine wpAnyY_one0 (i := 10) rfl (by kernel_rfl) (by kernel_rfl) (fun K hK => ?_)
        go_simp
        refine hK.out _ _ ?_
        clear hK K
        try simp only [Act.put, List.setIfInBounds_toArray, List.set_cons_zero, List.set_cons_succ, Nat.zero_add]
        refine wpAnyY_done (by kernel_rfl) ?_ _
        go_wp2
        go_roundg (bd.length - (i + 1))
        case measure => omega
        case rel => exact ⟨i + 1, by go_num, rfl, by omega, by omega, HO9.out, HB9.out⟩
      · have hlt' : (i : Int) < bd.length := by omega
        have h1000' : ¬ (i : Int) < 1000 := by omega
        have HE := Lib.hid (lensTo_end (ns := ns) (b := bd) hi2 (.inr h1000))
        clear hb
        go_wp2
        go_ret
        exact ⟨_, rfl, by rw [← HE.out]; exact HO.out, HB.out⟩
    · have hlt' : ¬ (i : Int) < bd.length := by omega
      have HE := Lib.hid (lensTo_end (ns := ns) (b := bd) hi2 (.inl hlt))
      clear hb
      go_wp2
      go_ret
      exact ⟨_, rfl, by rw [← HE.out]; exact HO.out, HB.out⟩

theorem sum_take {ns : List Nat} {i : Nat} (h : i < ns.length) : (ns.take (i + 1)).sum = (ns.take i).sum + ns[i] := by
  rw [List.take_succ_eq_append_getElem h, List.sum_append]; simp
theorem sum_bound {ns : List Nat} {M : Nat} (h : ∀ n ∈ ns, n ≤ M) : ns.sum ≤ M * ns.length := by
  induction ns with
  | nil => simp
  | cons x r ih =>
    rw [List.sum_cons, List.length_cons]
    have h1 := h x (by simp)
    have h2 := ih (fun n hn => h n (by simp [hn]))
    rw [Nat.mul_add]; omega
set_option maxRecDepth 100000 in
set_option maxHeartbeats 1000000 in
theorem wide_any (v : Value) (ns : List Nat) (w : World) (base : Nat) (hown : LenRow w base v ns) (hb : ∀ n ∈ ns, n ≤ 140737488355328) (hl : ns.length ≤ 4000) :
    Calls Try.prog 10 #[v] w fun e w' => e = .returned (.bool (decide (400 < ns.sum))) ∧ w = w' := by
  obtain ⟨A, c, rfl⟩ := hown.shape
  have HO := Lib.hid hown
  have HBN := Lib.hid hb
  clear hown hb
  go_enter Try.func10, Try.ntmps10
  go_wp2
  go_loopg [3, 4] ns.length (fun g s3 s4 wx => ∃ i : Nat, s4 = .int .i64 i ∧ s3 = .int .i64 ((ns.take i).sum : Nat) ∧ g = ns.length - i ∧ i ≤ ns.length ∧ w = wx)
  case atStart => exact ⟨0, rfl, rfl, rfl, Nat.zero_le _, rfl⟩
  case round =>
    obtain ⟨i, rfl, rfl, rfl, hi, rfl⟩ := hrel
    have i0 : (0 : Int) ≤ i := by omega
    have hs : (ns.take i).sum ≤ 562949953421312000 := by
      have h1 := sum_bound (ns := ns.take i) (M := 140737488355328) (fun n hn => HBN.out n (List.mem_of_mem_take hn))
      have h2 : (ns.take i).length ≤ 4000 := by rw [List.length_take]; omega
      have h3 : 140737488355328 * (ns.take i).length ≤ 140737488355328 * 4000 := Nat.mul_le_mul_left _ h2
      omega
    obtain ⟨sm, hsm⟩ : ∃ q, (ns.take i).sum = q := ⟨_, rfl⟩
    have HSM := Lib.hid hsm
    rw [hsm] at hs ⊢
    clear hsm
    have s0 : (0 : Int) ≤ sm := by omega
    have s1 : (sm : Int) ≤ 562949953421312000 := by omega
    by_cases hlt : i < ns.length
    · have hlt' : (i : Int) < ns.length := by omega
      obtain ⟨g, S, k, rfl, _, hgl, d0⟩ := HO.out.cell hlt
      have HN := Lib.hid (sum_take hlt)
      have hxb := HBN.out _ (List.getElem_mem hlt)
      generalize ns[i] = x at *
      have x0 : (0 : Int) ≤ x := by omega
      have x1 : (x : Int) ≤ 140737488355328 := by omega
      have HX : Hid ((ns.take (i + 1)).sum = sm + x) := Lib.hid (by rw [HN.out, HSM.out])
      clear HN
      go_wp2
      go_roundg (ns.length - (i + 1))
      case measure => omega
      case rel => exact ⟨i + 1, by go_num, by rw [HX.out]; go_num, rfl, by omega, rfl⟩
    · have hlt' : ¬ (i : Int) < ns.length := by omega
      have HX : Hid (ns.sum = sm) := Lib.hid (by rw [← HSM.out, List.take_of_length_le (by omega)])
      by_cases h4 : 400 < sm
      · have HD : Hid (decide (400 < ns.sum) = true) := Lib.hid (decide_eq_true (by rw [HX.out]; exact h4))
        have h4' : (400 : Int) < sm := by omega
        go_wp2
        go_ret
        exact ⟨by rw [HD.out]; rfl, rfl⟩
      · have HD : Hid (decide (400 < ns.sum) = false) := Lib.hid (decide_eq_false (by rw [HX.out]; exact h4))
        have h4' : ¬ (400 : Int) < sm := by omega
        go_wp2
        go_ret
        exact ⟨by rw [HD.out]; rfl, rfl⟩
end Go.Proofs.Ytgcbnndbeoekgaa
