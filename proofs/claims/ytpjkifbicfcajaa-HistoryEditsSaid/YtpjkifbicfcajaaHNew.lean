import Derived.Test.YtpjkifbicfcajaaRowC
import Derived.Test.YtpjkifbicfcajaaALentI
import Derived.Lib.SliceRun
import Derived.Test.YtpjkifbicfcajaaAClone
import Derived.Test.YtpjkifbicfcajaaRegY
import Derived.Test.YtpjkifbicfcajaaPastP
import Derived.Lib.QuietBelow
import Derived.Test.YtpjkifbicfcajaaACheck
set_option linter.unusedSimpArgs false
set_option linter.unusedVariables false
section
/- models that are written over, and a twin half made -/
namespace Go.Proofs.Ytpjkifbicfcajaa
open Go Go.RowKit

/-! ### Lists that may be written over -/
def WrS (O : Nat → Prop) (size : Nat) (w : World) (A : Option Addr) (n : Nat) : Prop :=
  ∀ i, i < n → ∃ b off, A = some ⟨b, off, none⟩ ∧ O b ∧ b < w.heap.size ∧ ∀ j, j < size → (w.cell? ⟨b, off + i * size + j, none⟩).isSome = true ∧ w.frozen? ⟨b, off + i * size + j, none⟩ = false
def LN.Wr (O : Nat → Prop) (w : World) (x : LN) : Prop :=
  (∃ A c, x.p = .slice A x.n.props.length c ∧ x.n.props.length ≤ maxLen ∧ WrS O 2 w A x.n.props.length) ∧ (∃ A c, x.k = .slice A x.n.kids.length c ∧ x.n.kids.length ≤ maxLen ∧ WrS O 1 w A x.n.kids.length) ∧
    ∃ A c, x.r = .slice A x.n.refs.length c ∧ x.n.refs.length ≤ maxLen ∧ WrS O 2 w A x.n.refs.length
def WrL (O : Nat → Prop) (w : World) (l : List LN) : Prop := ∀ x ∈ l, x.Wr O w
section
variable {O : Nat → Prop} {size n : Nat} {w w' : World} {A : Option Addr}
theorem WrS.set_ (h : WrS O size w A n) (p : Addr) (u : Value) : WrS O size (w.setCell p u) A n := fun i hi => by
  obtain ⟨b, off, e, h1, h2, h4⟩ := h i hi
  refine ⟨b, off, e, h1, by simpa using h2, fun j hj => ⟨?_, by rw [World.frozen?_setCell]; exact (h4 j hj).2⟩⟩
  by_cases hp : p = ⟨b, off + i * size + j, none⟩
  · subst hp; rw [World.cell?_setCell_same' _ _ _ (h4 j hj).1]; rfl
  · rw [World.cell?_setCell_other (h := hp)]; exact (h4 j hj).1
theorem WrS.below (h : WrS O size w A n) (hb : Below w.heap.size w w') : WrS O size w' A n := fun i hi => by
  obtain ⟨b, off, e, h1, h2, h4⟩ := h i hi
  refine ⟨b, off, e, h1, Nat.lt_of_lt_of_le h2 hb.size, fun j hj => ?_⟩
  rw [World.cell?_of_block (hb.block b h2), World.frozen?_of_block (w := w) (a := ⟨b, _, none⟩) (hb.block b h2)]
  exact h4 j hj
theorem LN.Wr.set_ {x : LN} (h : x.Wr O w) (p : Addr) (u : Value) : x.Wr O (w.setCell p u) := by
  obtain ⟨⟨A1, c1, e1, m1, h1⟩, ⟨A2, c2, e2, m2, h2⟩, ⟨A3, c3, e3, m3, h3⟩⟩ := h
  exact ⟨⟨A1, c1, e1, m1, h1.set_ p u⟩, ⟨A2, c2, e2, m2, h2.set_ p u⟩, ⟨A3, c3, e3, m3, h3.set_ p u⟩⟩
theorem LN.Wr.below {x : LN} (h : x.Wr O w) (hb : Below w.heap.size w w') : x.Wr O w' := by
  obtain ⟨⟨A1, c1, e1, m1, h1⟩, ⟨A2, c2, e2, m2, h2⟩, ⟨A3, c3, e3, m3, h3⟩⟩ := h
  exact ⟨⟨A1, c1, e1, m1, h1.below hb⟩, ⟨A2, c2, e2, m2, h2.below hb⟩, ⟨A3, c3, e3, m3, h3.below hb⟩⟩
theorem WrL.set_ {l : List LN} (h : WrL O w l) (p : Addr) (u : Value) : WrL O (w.setCell p u) l := fun x hx => (h x hx).set_ p u
theorem WrL.below {l : List LN} (h : WrL O w l) (hb : Below w.heap.size w w') : WrL O w' l := fun x hx => (h x hx).below hb
theorem WrS.of_own {base : Nat} {e : TypeId} {xs : List Value} {c : Nat} (h : w.ownsRow base e size (.slice A n c) n xs) (hO : ∀ b, (Value.slice A n c).ownBlock = some b → O b) : WrS O size w A n := fun i hi => by
  obtain ⟨g, cap, e0, h1, h2, h3, h4⟩ := own_some h (by omega)
  injection e0 with e1 _ e2
  subst e1; subst e2
  refine ⟨g, 0, rfl, hO g rfl, h4, fun j hj => ?_⟩
  have hlt : i * size + j < n * size := by
    have : (i + 1) * size ≤ n * size := Nat.mul_le_mul_right _ hi
    rw [Nat.add_mul] at this; omega
  rw [Nat.zero_add, own_cell h _ hlt]
  have hl := h.1
  exact ⟨by rw [List.getElem?_eq_getElem (by omega)]; rfl, own_frozen h _⟩
end
theorem own_max {w : World} {base : Nat} {e : TypeId} {size n : Nat} {v : Value} {xs : List Value} (h : w.ownsRow base e size v n xs) : n ≤ maxLen := by
  rcases Nat.eq_zero_or_pos n with h0 | h0
  · omega
  · obtain ⟨g, cap, _, h1, h2, _⟩ := own_some h h0; omega
theorem OwnM.wr {w : World} {base : Nat} {v : Value} {l : List LN} (h : OwnM w base v l) : WrL (fun b => some b ∈ allBlocks l) w l := fun x hx => by
  have ho := h.lists x hx
  obtain ⟨A1, c1, e1⟩ := own_shape ho.p
  obtain ⟨A2, c2, e2⟩ := ho.k.shape
  obtain ⟨A3, c3, e3⟩ := own_shape ho.r
  have hk := ho.k
  unfold OwnI at hk
  have hp := ho.p; have hr := ho.r
  rw [e1] at hp; rw [e2] at hk; rw [e3] at hr
  exact ⟨⟨A1, c1, e1, own_max hp, WrS.of_own hp fun b hb => mem_all hx (by simp [LN.blocks, e1, hb])⟩, ⟨A2, c2, e2, own_max hk, WrS.of_own hk fun b hb => mem_all hx (by simp [LN.blocks, e2, hb])⟩, ⟨A3, c3, e3, own_max hr, WrS.of_own hr fun b hb => mem_all hx (by simp [LN.blocks, e3, hb])⟩⟩
/-- a block of nodes, those from i on as they were -/
def NodesF (w : World) (g : Nat) (ns : List LN) (i : Nat) : Prop :=
  ∃ cs, Blk w g 79 cs ∧ ns.length * 7 ≤ cs.size ∧ ∀ k (h : k < ns.length), i ≤ k → ∀ j, j < 7 → cs[k * 7 + j]? = ns[k].cells[j]?
section
variable {w w' : World} {g i : Nat} {ns : List LN}
theorem NodesF.lt (h : NodesF w g ns i) : g < w.heap.size := let ⟨_, h, _⟩ := h; h.lt
theorem NodesF.far (h : NodesF w g ns i) {p : Addr} (hp : g ≠ p.block) (u : Value) : NodesF (w.setCell p u) g ns i := by
  obtain ⟨cs, h1, h2⟩ := h
  exact ⟨cs, h1.far hp u, h2⟩
theorem NodesF.below {T : Nat} (h : NodesF w g ns i) (hb : Below T w w') (hg : g < T) : NodesF w' g ns i := by
  obtain ⟨cs, h1, h2⟩ := h
  exact ⟨cs, h1.below hb hg, h2⟩
theorem NodesF.next (h : NodesF w g ns i) : NodesF w g ns (i + 1) := by
  obtain ⟨cs, h1, h2, h3⟩ := h
  exact ⟨cs, h1, h2, fun k hk hik => h3 k hk (by omega)⟩
theorem NodesF.put (h : NodesF w g ns i) {q : Nat} (hq : q < i * 7) (u : Value) : NodesF (w.setCell ⟨g, q, none⟩ u) g ns i := by
  obtain ⟨cs, h1, h2, h3⟩ := h
  refine ⟨_, h1.set_ q u, by simpa using h2, fun k hk hik j hj => ?_⟩
  rw [← h3 k hk hik j hj, Array.getElem?_setIfInBounds_ne (by omega)]
theorem NodesF.at_ (h : NodesF w g ns i) (hi : i < ns.length) : (∀ j, j < 7 → w.cell? ⟨g, i * 7 + j, none⟩ = ns[i].cells[j]?) ∧ ∀ j, w.frozen? ⟨g, j, none⟩ = false := by
  obtain ⟨cs, h1, h2, h3⟩ := h
  exact ⟨fun j hj => by rw [h1.cell, h3 i hi (Nat.le_refl _) j hj], fun j => h1.frozen j⟩
theorem OwnM.nodesF {base cap n : Nat} (h : OwnM w base (.slice (some ⟨g, 0, none⟩) n cap) ns) : NodesF w g ns 0 := by
  have hnl : n = ns.length := by obtain ⟨A, c, e⟩ := own_shape h.row; injection e
  subst hnl
  rcases h.row.2 with ⟨e0, _⟩ | ⟨g', cap', cur, e0, hbg, hh, hnc, hcm, hsz, ht⟩
  · cases e0
  · injection e0 with e1 _ e2
    injection e1 with e1
    injection e1 with e1
    subst e1; subst e2
    have hle : ns.length * 7 ≤ cur.size := by rw [hsz]; exact Nat.mul_le_mul_right _ hnc
    refine ⟨cur, hh, hle, fun k hk _ j hj => ?_⟩
    have hlt : k * 7 + j < ns.length * 7 := by omega
    rw [← flat_at LN.cells_len ns k j hk hj, ← ht, List.getElem?_take_of_lt hlt]
    simp
end

/-! ### A twin half made: the nodes are there, the lists of the first ones are their own -/
structure HalfM (w : World) (base : Nat) (v : Value) (n : Nat) (l rest : List LN) : Prop where
  row : w.ownsRow base 79 7 v n ((l ++ rest).flatMap LN.cells)
  lists : ∀ x ∈ l, OwnL w base x
  dis : ∀ b, (v.ownBlock :: allBlocks l).count (some b) ≤ 1
section
variable {w w' : World} {base g n cap : Nat} {v : Value} {l rest : List LN}
theorem HalfM.below (h : HalfM w base v n l rest) (hb : Below w.heap.size w w') : HalfM w' base v n l rest :=
  ⟨own_keep h.row fun b e => hb.block b (h.row.lt b e).2, fun x hx => (h.lists x hx).keep fun b e => hb.block b ((h.lists x hx).lt b e).2, h.dis⟩
theorem HalfM.own (h : HalfM w base v n l []) (hn : n = l.length) : OwnM w base v l := by
  subst hn
  exact ⟨by simpa using h.row, h.lists, h.dis⟩
theorem HalfM.gne (h : HalfM w base v n l rest) {x : LN} (hx : x ∈ l) {b : Nat} (hb : some b ∈ x.blocks) : v.ownBlock ≠ some b := by
  intro e
  have h1 := h.dis b
  rw [← e, List.count_cons_self, e] at h1
  have := count_pos (mem_all hx hb)
  omega
theorem HalfM.lt (h : HalfM w base v n l rest) : ∀ b, some b ∈ (v.ownBlock :: allBlocks l) → base ≤ b ∧ b < w.heap.size := by
  intro b hb
  rcases List.mem_cons.1 hb with hb | hb
  · exact h.row.lt b hb.symm
  · obtain ⟨x, hx, hb⟩ := List.mem_flatMap.1 hb
    exact (h.lists x hx).lt b hb
theorem HalfM.cell {x : LN} (h : HalfM w base (.slice (some ⟨g, 0, none⟩) n cap) n l (x :: rest)) (hn : n = (l ++ x :: rest).length) {j : Nat} (hj : j < 7) : w.cell? ⟨g, l.length * 7 + j, none⟩ = x.cells[j]? := by
  have hlt : l.length < (l ++ x :: rest).length := by simp
  have hin : l.length * 7 + 7 ≤ n * 7 := by have : (l.length + 1) * 7 ≤ n * 7 := Nat.mul_le_mul_right _ (by omega); omega
  rw [own_cell h.row _ (by omega), flat_at LN.cells_len _ _ _ hlt hj]
  simp
theorem HalfM.step {x y : LN} (h : HalfM w base (.slice (some ⟨g, 0, none⟩) n cap) n l (x :: rest)) (hn : y.n = x.n) (hy : OwnL w base y) (hd : ∀ b, y.blocks.count (some b) ≤ 1) (hsep : ∀ b, some b ∈ y.blocks → b ≠ g ∧ some b ∉ allBlocks l) (hnl : n = (l ++ x :: rest).length) :
    HalfM (((w.setCell ⟨g, l.length * 7 + 4, none⟩ y.p).setCell ⟨g, l.length * 7 + 5, none⟩ y.k).setCell ⟨g, l.length * 7 + 6, none⟩ y.r) base (.slice (some ⟨g, 0, none⟩) n cap) n (l ++ [y]) rest := by
  have hlt : l.length < (l ++ x :: rest).length := by simp
  have hat : (l ++ x :: rest)[l.length] = x := by simp
  have far : ∀ b, b ≠ g → (((w.setCell ⟨g, l.length * 7 + 4, none⟩ y.p).setCell ⟨g, l.length * 7 + 5, none⟩ y.k).setCell ⟨g, l.length * 7 + 6, none⟩ y.r).heap[b]? = w.heap[b]? := fun b hb =>
    (Below.heap_setCell _ _ _ _ hb).trans ((Below.heap_setCell _ _ _ _ hb).trans (Below.heap_setCell _ _ _ _ hb))
  have hin : l.length * 7 + 7 ≤ n * 7 := by have : (l.length + 1) * 7 ≤ n * 7 := Nat.mul_le_mul_right _ (by omega); omega
  refine ⟨?_, fun z hz => ?_, fun b => ?_⟩
  · have e1 := flat_set LN.cells_len (l ++ x :: rest) l.length 4 hlt (by omega) y.p ⟨x.n, y.p, x.k, x.r⟩ (by rw [hat]; rfl)
    have e2 := flat_set LN.cells_len ((l ++ x :: rest).set l.length ⟨x.n, y.p, x.k, x.r⟩) l.length 5 (by simp) (by omega) y.k ⟨x.n, y.p, y.k, x.r⟩ (by rw [List.getElem_set_self]; rfl)
    have e3 := flat_set LN.cells_len (((l ++ x :: rest).set l.length ⟨x.n, y.p, x.k, x.r⟩).set l.length ⟨x.n, y.p, y.k, x.r⟩) l.length 6 (by simp) (by omega) y.r y (by rw [List.getElem_set_self]; unfold LN.cells nodeCellsA; rw [hn]; rfl)
    have e4 : (((l ++ x :: rest).set l.length ⟨x.n, y.p, x.k, x.r⟩).set l.length ⟨x.n, y.p, y.k, x.r⟩).set l.length y = l ++ [y] ++ rest := by simp
    have r1 := own_set h.row (i := l.length * 7 + 4) (by omega) y.p
    have r2 := own_set r1 (i := l.length * 7 + 5) (by omega) y.k
    have r3 := own_set r2 (i := l.length * 7 + 6) (by omega) y.r
    rw [← e1, ← e2, ← e3, e4] at r3
    exact r3
  · rcases List.mem_append.1 hz with hz | hz
    · exact (h.lists z hz).keep fun b e => far b (fun e2 => h.gne hz e (by rw [e2]; rfl))
    · simp only [List.mem_cons, List.not_mem_nil, or_false] at hz
      subst hz
      exact hy.keep fun b e => far b (hsep b e).1
  · have h1 := h.dis b
    have h2 := hd b
    have e1 : (allBlocks (l ++ [y])).count (some b) = (allBlocks l).count (some b) + y.blocks.count (some b) := by rw [all_append, List.count_append]; simp [allBlocks]
    rw [List.count_cons] at h1 ⊢
    rw [e1]
    by_cases hb : some b ∈ y.blocks
    · obtain ⟨h3, h4⟩ := hsep b hb
      have := count_no h4
      have h5 : ((Value.slice (some ⟨g, 0, none⟩) n cap).ownBlock == some b) = false := beq_eq_false_iff_ne.2 fun e => h3 (by injection e with e; exact e.symm)
      rw [h5]
      simp
      omega
    · have := count_no hb; omega
end
end Go.Proofs.Ytpjkifbicfcajaa
end
section
namespace Go.Proofs.Ytpjkifbicfcajaa
open Go Go.RowKit
theorem hint_info : (Try.prog.info? 3).map (fun i => (i.zero, i.size, i.bytes)) = some (some (.int .i64 0), 1, 8) := by kernel_rfl

set_option maxRecDepth 100000 in
set_option maxHeartbeats 800000 in
theorem cloneN_any (S : Option Addr) (c n : Nat) (xs : List Value) (w : World) (hxs : xs.length = n * 7) (hn : S = none → n = 0) (h : ∀ ad, S = some ad → ∀ j u, xs[j]? = some u → w.cell? (ad.add j) = some u) (hF : ∀ ad, S = some ad → 0 < n → ad.block < w.heap.size) (h1 : ∀ u ∈ xs, u.oneCell' = true) (hl : n * 120 ≤ 140737488351232) :
    Calls Try.prog 65 #[.slice S n c] w fun e w' => ∃ S' c', e = .returned (.slice S' n c') ∧ w'.ownsRow w.heap.size 79 7 (.slice S' n c') n xs ∧ Below w.heap.size w w' := by
  have hnil := fun (w : World) (a : Option Addr) (n c n' c' : Nat) => Lib.run_eql_slice_nil (P := Try.prog) w 25 79 a n c n' c' Try.underlying25
  rcases S with _ | ad
  · obtain rfl := hn rfl
    obtain rfl : xs = [] := List.eq_nil_of_length_eq_zero (by simpa using hxs)
    go_enter Try.func65, Try.ntmps65
    go_wp2
    go_ret
    exact ⟨none, 0, rfl, World.ownsRow_nil _ _ _ _, Below.refl _ _⟩
  · have HC : Hid (∀ w', Below w.heap.size w w' → ∀ ad', some ad = some ad' → ∀ j u, xs[j]? = some u → w'.cell? (ad'.add j) = some u) := Lib.hid (fun w' hb ad' hA j u hu => by
      have hj : j < xs.length := (List.getElem?_eq_some_iff.1 hu).1
      have hn0 : 0 < n := Nat.pos_of_ne_zero (fun h0 => by subst h0; simp at hxs; subst hxs; simp at hj)
      rw [← h ad' hA j u hu]
      exact hb.cell (p := ad'.add j) (by rw [show (ad'.add j).block = ad'.block from by unfold Addr.add; split <;> rfl]; exact hF ad' hA hn0))
    have H1 := Lib.hid h1; have HX := Lib.hid hxs
    clear h hF h1 hxs hn
    go_enter Try.func65, Try.ntmps65
    go_wp2_with (at_builtin; refine wpList_append_from _ rfl (.tmp 5) (.tmp 6) 25 rfl w.heap.size 79 Try.underlying25 node_info ?a1 ?a2 (.slice (some ⟨w.heap.size, 0, none⟩) 0 0) 0 [] ?a3 (World.ownsRow_made (base := w.heap.size) (e := 79) (size := 7) w #[] 0 (Nat.le_refl _) (Nat.zero_le _) rfl) (some ad) n c xs ?a4 HX.out ?a5 (HC.out _ ((Below.refl w.heap.size w).alloc (Nat.le_refl _) (.cells #[] 79))) H1.out ?a6 ?a7 ?a8 ?a9)
    try (case a1 => rfl)
    try (case a2 => omega)
    try (case a3 => rfl)
    try (case a4 => rfl)
    try (case a5 => intro e; cases e)
    try (case a6 => unfold maxLen; omega)
    try (case a7 => omega)
    try (case a8 => simp)
    case a9 =>
      intro A' c' w' own' hg' _
      try simp only [Nat.zero_add, List.nil_append] at own'
      try simp only [Nat.zero_add, List.nil_append] at hg'
      have HO := Lib.hid own'
      have HB := Lib.hid (((Below.refl w.heap.size w).alloc (Nat.le_refl _) (.cells #[] 79)).grown hg' (by simp) (fun k e => by simp [Value.ownBlock] at e; omega))
      clear own' hg'
      go_wp2
      go_ret
      exact ⟨A', c', by simp, HO.out, HB.out⟩

set_option maxRecDepth 100000 in
set_option maxHeartbeats 800000 in
theorem cloneI_any (S : Option Addr) (c n : Nat) (xs : List Value) (w : World) (hxs : xs.length = n * 1) (hn : S = none → n = 0) (h : ∀ ad, S = some ad → ∀ j u, xs[j]? = some u → w.cell? (ad.add j) = some u) (hF : ∀ ad, S = some ad → 0 < n → ad.block < w.heap.size) (h1 : ∀ u ∈ xs, u.oneCell' = true) (hl : n * 8 ≤ 140737488351232) :
    Calls Try.prog 67 #[.slice S n c] w fun e w' => ∃ S' c', e = .returned (.slice S' n c') ∧ w'.ownsRow w.heap.size 3 1 (.slice S' n c') n xs ∧ Below w.heap.size w w' := by
  have hnil := fun (w : World) (a : Option Addr) (n c n' c' : Nat) => Lib.run_eql_slice_nil (P := Try.prog) w 54 3 a n c n' c' Try.underlying54
  rcases S with _ | ad
  · obtain rfl := hn rfl
    obtain rfl : xs = [] := List.eq_nil_of_length_eq_zero (by simpa using hxs)
    go_enter Try.func67, Try.ntmps67
    go_wp2
    go_ret
    exact ⟨none, 0, rfl, World.ownsRow_nil _ _ _ _, Below.refl _ _⟩
  · have HC : Hid (∀ w', Below w.heap.size w w' → ∀ ad', some ad = some ad' → ∀ j u, xs[j]? = some u → w'.cell? (ad'.add j) = some u) := Lib.hid (fun w' hb ad' hA j u hu => by
      have hj : j < xs.length := (List.getElem?_eq_some_iff.1 hu).1
      have hn0 : 0 < n := Nat.pos_of_ne_zero (fun h0 => by subst h0; simp at hxs; subst hxs; simp at hj)
      rw [← h ad' hA j u hu]
      exact hb.cell (p := ad'.add j) (by rw [show (ad'.add j).block = ad'.block from by unfold Addr.add; split <;> rfl]; exact hF ad' hA hn0))
    have H1 := Lib.hid h1; have HX := Lib.hid hxs
    clear h hF h1 hxs hn
    go_enter Try.func67, Try.ntmps67
    go_wp2_with (at_builtin; refine wpList_append_from _ rfl (.tmp 5) (.tmp 6) 54 rfl w.heap.size 3 Try.underlying54 hint_info ?a1 ?a2 (.slice (some ⟨w.heap.size, 0, none⟩) 0 0) 0 [] ?a3 (World.ownsRow_made (base := w.heap.size) (e := 3) (size := 1) w #[] 0 (Nat.le_refl _) (Nat.zero_le _) rfl) (some ad) n c xs ?a4 HX.out ?a5 (HC.out _ ((Below.refl w.heap.size w).alloc (Nat.le_refl _) (.cells #[] 3))) H1.out ?a6 ?a7 ?a8 ?a9)
    try (case a1 => rfl)
    try (case a2 => omega)
    try (case a3 => rfl)
    try (case a4 => rfl)
    try (case a5 => intro e; cases e)
    try (case a6 => unfold maxLen; omega)
    try (case a7 => omega)
    try (case a8 => simp)
    case a9 =>
      intro A' c' w' own' hg' _
      try simp only [Nat.zero_add, List.nil_append] at own'
      try simp only [Nat.zero_add, List.nil_append] at hg'
      have HO := Lib.hid own'
      have HB := Lib.hid (((Below.refl w.heap.size w).alloc (Nat.le_refl _) (.cells #[] 3)).grown hg' (by simp) (fun k e => by simp [Value.ownBlock] at e; omega))
      clear own' hg'
      go_wp2
      go_ret
      exact ⟨A', c', by simp, HO.out, HB.out⟩
end Go.Proofs.Ytpjkifbicfcajaa
end
section
/- history.twin -/
namespace Go.Proofs.Ytpjkifbicfcajaa
open Go Go.RowKit

set_option maxRecDepth 100000 in
set_option maxHeartbeats 2000000 in
theorem htwin_any (A : Option Addr) (c : Nat) (m : AModel) (w : World) (F : Nat → Prop) (hF : ∀ b, F b → b < w.heap.size) (h : RowOf 7 ENode w F A m.nodes) (hz' : ∀ x ∈ m.nodes, LensOK x) (hl : m.nodes.length ≤ 1172812402926) :
    Calls Try.prog 39 #[.agg #[.int .i64 m.next, .slice A m.nodes.length c]] w fun e w' => ∃ v, e = .returned (.agg #[.int .i64 m.next, v]) ∧ ∃ l, OwnM w' w.heap.size v l ∧ l.map LN.n = m.nodes ∧ Below w.heap.size w w' := by
  have HH := Lib.hid h
  have HZ := Lib.hid hz'
  clear h hz'
  go_enter Try.func39, Try.ntmps39
  go_upto_region 1 with fail
  obtain ⟨u0, hu0⟩ : ∃ u : World, (w.alloc (.cells #[.int .i64 m.next, .slice A m.nodes.length c] 27)).alloc (.cells #[.int .i64 0, .slice none 0 0] 27) = u := ⟨_, rfl⟩
  have HB0 : Hid (Below w.heap.size w u0) := Lib.hid (by rw [← hu0]; exact ((Below.refl w.heap.size w).alloc (Nat.le_refl _) _).alloc (by simp) _)
  have HM0 : Hid (Blk u0 w.heap.size 27 #[.int .i64 m.next, .slice A m.nodes.length c]) := Lib.hid (by rw [← hu0]; exact (Blk.new _ _ _).alloc _)
  have HR0 : Hid (Blk u0 (w.heap.size + 1) 27 #[.int .i64 0, .slice none 0 0]) := Lib.hid (by rw [← hu0]; exact Blk.new' (by simp))
  have hF0 : ∀ b, F b → b < u0.heap.size := fun b hb => Nat.lt_of_lt_of_le (hF b hb) HB0.out.size
  have HU : Hid (RowOf 7 ENode u0 F A m.nodes) := Lib.hid (HH.out.keep ENode.stays (Keep.below HB0.out hF) (fun _ h => h))
  obtain ⟨ls, hls, hrd, hcs⟩ := HU.out.lns
  have HLS := Lib.hid hls; have HRD := Lib.hid hrd
  have hll : m.nodes.length = ls.length := by rw [← hls, List.length_map]
  have HCL : Hid (Calls Try.prog 65 #[.slice A m.nodes.length c] u0 fun e w' => ∃ S' c', e = .returned (.slice S' m.nodes.length c') ∧ w'.ownsRow u0.heap.size 79 7 (.slice S' m.nodes.length c') m.nodes.length (ls.flatMap LN.cells) ∧ Below u0.heap.size u0 w') := Lib.hid (cloneN_any A c m.nodes.length (ls.flatMap LN.cells) u0 (by rw [flat_length LN.cells_len, hll]) (fun e => by subst e; rw [HU.out.none_nil]; rfl) hcs (fun ad hA hn => by
      obtain ⟨b, off, e, hb⟩ := HU.out.1 (fun e => by rw [e] at hn; simp at hn)
      rw [hA] at e; cases e; exact hF0 b hb) (fun u hu => by
      obtain ⟨x, hx, hu⟩ := List.mem_flatMap.1 hu
      obtain ⟨⟨a1, b1, e1, _⟩, ⟨a2, b2, e2, _⟩, ⟨a3, b3, e3, _⟩⟩ := hrd x hx
      exact LN.cells_one x ⟨_, _, _, e1⟩ ⟨_, _, _, e2⟩ ⟨_, _, _, e3⟩ u hu) (by omega))
  have m0 := HM0.out.cell 0; have m1 := HM0.out.cell 1
  have mz := HM0.out.frozen 1
  have hmlt := HM0.out.lt
  simp at m0 m1
  (try rw [hu0])
  clear hu0 hls hrd hcs hll
  go_wp2_with fail
  refine HCL.out.mono ?_
  rintro _ w1 ⟨S', c', rfl, hrow, hb1⟩
  have hnl : (.slice S' m.nodes.length c' : Value).oneCell' = true := rfl
  have HROW := Lib.hid hrow
  have HM1 := Lib.hid (HM0.out.below hb1 hmlt); have HR1 := Lib.hid (HR0.out.below hb1 HR0.out.lt)
  have HB1 := Lib.hid (HB0.out.trans (hb1.mono HB0.out.size))
  have HU1 : Hid (Keep F u0 w1) := Lib.hid (Keep.below hb1 hF0)
  have HS1 : Hid (u0.heap.size ≤ w1.heap.size ∧ w.heap.size + 2 ≤ u0.heap.size) := Lib.hid ⟨hb1.size, HR0.out.lt⟩
  clear HB0 HM0 HR0 HCL m0 m1 mz hmlt hrow hb1
  have m0 := HM1.out.cell 0; have m1 := HM1.out.cell 1
  have mz := HM1.out.frozen 1
  have hmlt := HM1.out.lt
  simp at m0 m1
  have HWE : Hid (∃ z, w1.setCell ⟨w.heap.size, 1, none⟩ (.slice S' m.nodes.length c') = z) := Lib.hid ⟨_, rfl⟩
  go_upto_region 2 with fail
  obtain ⟨w2, hu⟩ := HWE.out
  have HM2 : Hid (Blk w2 w.heap.size 27 #[.int .i64 m.next, .slice S' m.nodes.length c']) := Lib.hid (by rw [← hu]; simpa using HM1.out.set_ 1 (.slice S' m.nodes.length c'))
  have HR2 : Hid (Blk w2 (w.heap.size + 1) 27 #[.int .i64 0, .slice none 0 0]) := Lib.hid (by rw [← hu]; exact HR1.out.far (by show w.heap.size + 1 ≠ w.heap.size; omega) _)
  have HB2 : Hid (Below w.heap.size w w2) := Lib.hid (by rw [← hu]; exact HB1.out.setCell (p := ⟨w.heap.size, 1, none⟩) (Nat.le_refl _) _)
  have HU2 : Hid (Keep F u0 w2) := Lib.hid (by rw [← hu]; exact fun q hq => (World.cell?_of_block (Below.heap_setCell _ _ _ _ (by have := hF _ hq; show q.block ≠ w.heap.size; omega))).trans (HU1.out q hq))
  have HH2 : Hid (HalfM w2 (w.heap.size + 2) (.slice S' m.nodes.length c') m.nodes.length [] ls) := Lib.hid (by
      rw [← hu]
      refine ⟨?_, fun _ h => by simp at h, fun b => Nat.le_trans List.count_le_length (by simp [allBlocks])⟩
      have h1 := own_weaken HROW.out HS1.out.2
      exact own_keep h1 fun b e => Below.heap_setCell _ _ _ _ (by have := (h1.lt b e).1; show b ≠ w.heap.size; omega))
  have HS2 : Hid (w.heap.size + 2 ≤ w2.heap.size) := Lib.hid (by rw [← hu]; have := HS1.out; simp; omega)
  (try rw [hu])
  clear HWE hu HM1 HR1 HB1 HU1 HS1 HROW m0 m1 mz hmlt
  have m0 := HM2.out.cell 0; have m1 := HM2.out.cell 1
  have hmlt := HM2.out.lt
  simp at m0 m1
  go_wp2_with fail
  clear m0 m1 hmlt
  go_loopg [3, 4, 12] m.nodes.length (fun g s3 s4 s12 wx => ∃ (i : Nat) (l rest : List LN), s12 = .int .i64 i ∧ g = m.nodes.length - i ∧ i ≤ m.nodes.length ∧ l.length = i ∧ l.map LN.n ++ rest.map LN.n = m.nodes ∧ (∀ x ∈ rest, x ∈ ls) ∧ Below w.heap.size w wx ∧ w.heap.size + 2 ≤ wx.heap.size ∧ Blk wx w.heap.size 27 #[.int .i64 m.next, .slice S' m.nodes.length c'] ∧ Blk wx (w.heap.size + 1) 27 #[.int .i64 0, .slice none 0 0] ∧ Keep F u0 wx ∧ HalfM wx (w.heap.size + 2) (.slice S' m.nodes.length c') m.nodes.length l rest)
  case atStart => exact ⟨0, [], ls, rfl, rfl, Nat.zero_le _, rfl, by simpa using HLS.out, fun _ h => h, HB2.out, HS2.out, HM2.out, HR2.out, HU2.out, HH2.out⟩
  case round =>
    clear HB2 HS2 HM2 HR2 HU2 HH2
    obtain ⟨i, l, rest, rfl, rfl, hil, hli, hlr, hrin, hb, hsz2, hmb, hrb, hku, hhf⟩ := hrel
    subst hli
    have HLR := Lib.hid hlr; have HRI := Lib.hid hrin
    have HB := Lib.hid hb; have HM := Lib.hid hmb; have HR := Lib.hid hrb; have HK := Lib.hid hku; have HF := Lib.hid hhf
    have HLEN : Hid (m.nodes.length = (l ++ rest).length) := Lib.hid (by rw [← hlr]; simp)
    have hsz := hb.size
    have m1 := hmb.cell 1
    have hmlt := hmb.lt; have hrlt := hrb.lt
    simp at m1
    clear hb hmb hrb hku hhf hlr hrin
    by_cases hlt : l.length < m.nodes.length
    · have hlt' : (l.length : Int) < m.nodes.length := by omega
      have i0 : (0 : Int) ≤ (l.length : Int) := by omega
      obtain ⟨x, rest', rfl⟩ : ∃ x r, rest = x :: r := by
        cases rest with
        | nil => have := HLEN.out; simp at this; omega
        | cons x r => exact ⟨x, r, rfl⟩
      obtain ⟨g, cap, e0, hcap1, hcap2, hg1, hg2⟩ := own_some HF.out.row (by omega)
      injection e0 with e1 _ e2
      subst e1; subst e2
      clear hcap2
      have HRDX : Hid (x.Reads u0 F) := Lib.hid (HRD.out x (HRI.out x (by simp)))
      have HZX : Hid (LensOK x.n) := Lib.hid (HZ.out _ (by rw [← HLR.out]; simp))
      obtain ⟨xn, xp, xk, xr⟩ := x
      obtain ⟨⟨Sp, cp, ep, _, _, hp⟩, ⟨Sk, ck, ek, _, _, hk⟩, ⟨Sr, cr, er, _, _, hr⟩⟩ := HRDX.out
      simp only at ep ek er hp hk hr
      subst ep; subst ek; subst er
      have HP := Lib.hid hp; have HKK := Lib.hid hk; have HRR := Lib.hid hr
      have c4 := HF.out.cell HLEN.out (j := 4) (by omega); have c5 := HF.out.cell HLEN.out (j := 5) (by omega); have c6 := HF.out.cell HLEN.out (j := 6) (by omega)
      simp [LN.cells, nodeCellsA] at c4 c5 c6
      have hFw : ∀ b, F b → b < wr.heap.size := fun b hb => Nat.lt_of_lt_of_le (hF b hb) hsz
      clear hp hk hr HRDX
      go_upto_region 6 with fail
      have HSS : Hid (∀ w', HalfM w' (w.heap.size + 2) (.slice (some ⟨g, 0, none⟩) m.nodes.length c') m.nodes.length l (⟨xn, .slice Sp xn.props.length cp, .slice Sk xn.kids.length ck, .slice Sr xn.refs.length cr⟩ :: rest') → (fun w' : World => w'.cell? ⟨g, l.length * 7 + 4, none⟩ = some (.slice Sp xn.props.length cp) ∧ w'.cell? ⟨g, l.length * 7 + 5, none⟩ = some (.slice Sk xn.kids.length ck) ∧ w'.cell? ⟨g, l.length * 7 + 6, none⟩ = some (.slice Sr xn.refs.length cr)) w') := Lib.hid (fun w' h1 => by
        have c4 := h1.cell HLEN.out (j := 4) (by omega); have c5 := h1.cell HLEN.out (j := 5) (by omega); have c6 := h1.cell HLEN.out (j := 6) (by omega)
        simp [LN.cells, nodeCellsA] at c4 c5 c6
        exact ⟨c4, c5, c6⟩)
      obtain ⟨u, hu⟩ : ∃ u : World, wr.drew = u := ⟨_, rfl⟩
      have HU : Hid (Below wr.heap.size wr u) := Lib.hid (by rw [← hu]; exact (Below.refl _ _).drew)
      have HBU := Lib.hid (HB.out.trans (HU.out.mono hsz))
      have HMU := Lib.hid (HM.out.below HU.out hmlt)
      have HRU := Lib.hid (HR.out.below HU.out hrlt)
      have HFU := Lib.hid (HF.out.below HU.out)
      have HKU := Lib.hid (HK.out.trans (Keep.below HU.out hFw))
      have hFu : ∀ b, F b → b < u.heap.size := fun b hb => Nat.lt_of_lt_of_le (hFw b hb) HU.out.size
      have HLU : Hid ((∀ b, some b ∈ ((.slice (some ⟨g, 0, none⟩) m.nodes.length c' : Value).ownBlock :: allBlocks l) → b < u.heap.size) ∧ w.heap.size + 2 ≤ u.heap.size) := Lib.hid ⟨fun b hb => (HFU.out.lt b hb).2, by have := HU.out.size; omega⟩
      clear c4 c5 c6 m1 HB HM HR HF HK hmlt hrlt hFw
      refine wp_region_Y (S := (fun w' : World => w'.cell? ⟨g, l.length * 7 + 4, none⟩ = some (.slice Sp xn.props.length cp) ∧ w'.cell? ⟨g, l.length * 7 + 5, none⟩ = some (.slice Sk xn.kids.length ck) ∧ w'.cell? ⟨g, l.length * 7 + 6, none⟩ = some (.slice Sr xn.refs.length cr))) 20 (by kernel_rfl) (by rw [hu]; exact HSS.out _ HFU.out) (fun hHeld => ?_)
      rw [hu] at hHeld ⊢
      clear hu HU
      refine wpAnyY_take0 (i := 1) (v := ?_) rfl (by kernel_rfl) (by kernel_rfl) (by kernel_rfl) (by kernel_rfl) (fun _ _ _ h => h) (Or.inl ⟨by rfl, ?_⟩) ?_
      rotate_left 1
      · (intro w' _; go_simp); try with_reducible rfl
      try simp only [Act.put, List.setIfInBounds_toArray, List.set_cons_zero, List.set_cons_succ, Nat.zero_add]
      refine wpAnyY_take0 (i := 2) (v := ?_) rfl (by kernel_rfl) (by kernel_rfl) (by kernel_rfl) (by kernel_rfl) (fun _ _ _ h => h) (Or.inl ⟨by rfl, ?_⟩) ?_
      rotate_left 1
      · (intro w' _; go_simp); try with_reducible rfl
      try simp only [Act.put, List.setIfInBounds_toArray, List.set_cons_zero, List.set_cons_succ, Nat.zero_add]
      refine wpAnyY_take0 (i := 8) (v := ?_) rfl (by kernel_rfl) (by kernel_rfl) (by kernel_rfl) (by kernel_rfl) (fun _ _ _ h => h) (Or.inl ⟨by rfl, ?_⟩) ?_
      rotate_left 1
      · (intro w' _; go_simp); try with_reducible rfl
      try simp only [Act.put, List.setIfInBounds_toArray, List.set_cons_zero, List.set_cons_succ, Nat.zero_add]
      refine wpAnyY_take0 (i := 9) (v := ?_) rfl (by kernel_rfl) (by kernel_rfl) (by kernel_rfl) (by kernel_rfl) (fun _ _ _ h => h) (Or.inl ⟨by rfl, ?_⟩) ?_
      rotate_left 1
      · (intro w' _; go_simp); try with_reducible rfl
      try simp only [Act.put, List.setIfInBounds_toArray, List.set_cons_zero, List.set_cons_succ, Nat.zero_add]
      refine wpAnyY_take0 (i := 10) (v := ?_) rfl (by kernel_rfl) (by kernel_rfl) (by kernel_rfl) (by kernel_rfl) (fun _ _ _ h => h) (Or.inl ⟨by rfl, ?_⟩) ?_
      rotate_left 1
      · (intro w' _; go_simp); try with_reducible rfl
      try simp only [Act.put, List.setIfInBounds_toArray, List.set_cons_zero, List.set_cons_succ, Nat.zero_add]
      refine wpAnyY_take0 (i := 13) (v := ?_) rfl (by kernel_rfl) (by kernel_rfl) (by kernel_rfl) (by kernel_rfl) (fun _ _ _ h => h) (Or.inl ⟨by rfl, ?_⟩) ?_
      rotate_left 1
      · (intro w' _; go_simp); try with_reducible rfl
      try simp only [Act.put, List.setIfInBounds_toArray, List.set_cons_zero, List.set_cons_succ, Nat.zero_add]
      refine wpAnyY_take0 (i := 14) (v := ?_) rfl (by kernel_rfl) (by kernel_rfl) (by kernel_rfl) (by kernel_rfl) (fun _ _ _ h => h) (Or.inl ⟨by rfl, ?_⟩) ?_
      rotate_left 1
      · (intro w' _; go_simp); try with_reducible rfl
      try simp only [Act.put, List.setIfInBounds_toArray, List.set_cons_zero, List.set_cons_succ, Nat.zero_add]
      refine wpAnyY_take0 (i := 15) (v := ?_) rfl (by kernel_rfl) (by kernel_rfl) (by kernel_rfl) (by kernel_rfl) (fun _ _ _ h => h) (Or.inl ⟨by rfl, ?_⟩) ?_
      rotate_left 1
      · (intro w' _; go_simp); try with_reducible rfl
      try simp only [Act.put, List.setIfInBounds_toArray, List.set_cons_zero, List.set_cons_succ, Nat.zero_add]
      refine wpAnyY_take (i := 0) (v := ?_) rfl (by kernel_rfl) (by kernel_rfl) (by kernel_rfl) (by kernel_rfl) (fun _ _ _ h => h) (Or.inl ⟨by rfl, ?_⟩) (by assumption) ?_
      rotate_left 1
      · (intro w' hSw; obtain ⟨s0, s1, s2⟩ := hSw; go_simp); try with_reducible rfl
      try simp only [Act.put, List.setIfInBounds_toArray, List.set_cons_zero, List.set_cons_succ, Nat.zero_add]
      refine wpAnyY_take (i := 3) (v := ?_) rfl (by kernel_rfl) (by kernel_rfl) (by kernel_rfl) (by kernel_rfl) (fun _ _ _ h => h) (Or.inl ⟨by rfl, ?_⟩) (by assumption) ?_
      rotate_left 1
      · (intro w' hSw; obtain ⟨s0, s1, s2⟩ := hSw; go_simp); try with_reducible rfl
      try simp only [Act.put, List.setIfInBounds_toArray, List.set_cons_zero, List.set_cons_succ, Nat.zero_add]
      refine wpAnyY_take (i := 4) (v := ?_) rfl (by kernel_rfl) (by kernel_rfl) (by kernel_rfl) (by kernel_rfl) (fun _ _ _ h => h) (Or.inl ⟨by rfl, ?_⟩) (by assumption) ?_
      rotate_left 1
      · (intro w' hSw; obtain ⟨s0, s1, s2⟩ := hSw; go_simp); try with_reducible rfl
      try simp only [Act.put, List.setIfInBounds_toArray, List.set_cons_zero, List.set_cons_succ, Nat.zero_add]
      refine wpAnyY_take (i := 5) (v := ?_) rfl (by kernel_rfl) (by kernel_rfl) (by kernel_rfl) (by kernel_rfl) (fun _ _ _ h => h) (Or.inl ⟨by rfl, ?_⟩) (by assumption) ?_
      rotate_left 1
      · (intro w' hSw; obtain ⟨s0, s1, s2⟩ := hSw; go_simp); try with_reducible rfl
      try simp only [Act.put, List.setIfInBounds_toArray, List.set_cons_zero, List.set_cons_succ, Nat.zero_add]
      refine wpAnyY_take (i := 6) (v := ?_) rfl (by kernel_rfl) (by kernel_rfl) (by kernel_rfl) (by kernel_rfl) (fun _ _ _ h => h) (Or.inl ⟨by rfl, ?_⟩) (by assumption) ?_
      rotate_left 1
      · (intro w' hSw; obtain ⟨s0, s1, s2⟩ := hSw; go_simp); try with_reducible rfl
      try simp only [Act.put, List.setIfInBounds_toArray, List.set_cons_zero, List.set_cons_succ, Nat.zero_add]
      refine wpAnyY_take (i := 11) (v := ?_) rfl (by kernel_rfl) (by kernel_rfl) (by kernel_rfl) (by kernel_rfl) (fun _ _ _ h => h) (Or.inl ⟨by rfl, ?_⟩) (by assumption) ?_
      rotate_left 1
      · (intro w' hSw; obtain ⟨s0, s1, s2⟩ := hSw; go_simp); try with_reducible rfl
      try simp only [Act.put, List.setIfInBounds_toArray, List.set_cons_zero, List.set_cons_succ, Nat.zero_add]
      refine wpAnyY_take (i := 16) (v := ?_) rfl (by kernel_rfl) (by kernel_rfl) (by kernel_rfl) (by kernel_rfl) (fun _ _ _ h => h) (Or.inl ⟨by rfl, ?_⟩) (by assumption) ?_
      rotate_left 1
      · (intro w' hSw; obtain ⟨s0, s1, s2⟩ := hSw; go_simp); try with_reducible rfl
      try simp only [Act.put, List.setIfInBounds_toArray, List.set_cons_zero, List.set_cons_succ, Nat.zero_add]
      refine wpAnyY_one (i := 7) rfl (by kernel_rfl) (fun K hK => ?_)
      go_simp
      refine (cloneProps_any Sp cp xn.props u F hFu (HP.out.keep EProp.stays HKU.out (fun _ h => h)) HZX.out.1).mono ?_
      rintro _ wa ⟨Zp, zp, rfl, hop, hb⟩
      have HOp := Lib.hid hop
      have HBA := Lib.hid (HBU.out.trans (hb.mono HBU.out.size))
      have HMA := Lib.hid (HMU.out.below hb HMU.out.lt)
      have HRA := Lib.hid (HRU.out.below hb HRU.out.lt)
      have HFA := Lib.hid (HFU.out.below hb)
      have HKA := Lib.hid (HKU.out.trans (Keep.below hb hFu))
      have hFa : ∀ b, F b → b < wa.heap.size := fun b hx => Nat.lt_of_lt_of_le (hFu b hx) hb.size
      have HWp := Lib.hid hb
      clear hb hop HBU HMU HRU HFU HKU
      go_simp
      refine hK.out _ _ (fun _ => HSS.out _ HFA.out) ?_
      have hHeldp := HSS.out _ HFA.out
      clear hK K
      try simp only [Act.put, List.setIfInBounds_toArray, List.set_cons_zero, List.set_cons_succ, Nat.zero_add]
      refine wpAnyY_one (i := 12) rfl (by kernel_rfl) (fun K hK => ?_)
      go_simp
      refine (cloneI_any Sk ck xn.kids.length (xn.kids.flatMap intCells) wa (by rw [flat_length intCells_len]) (fun e => by subst e; rw [HKK.out.none_nil]; rfl) (fun ad e => (HKK.out.keep (F' := F) EInt.stays HKA.out (fun _ h => h)).cellsFrom intCells_len ad e) (fun ad e hn => by obtain ⟨b, off, e2, hb⟩ := HKK.out.1 (fun e => by rw [e] at hn; simp at hn); rw [e] at e2; cases e2; exact hFa b hb) (flat_one intCells_one _) HZX.out.2.1).mono ?_
      rintro _ wb ⟨Zk, zk, rfl, hok, hb⟩
      have HOk := Lib.hid hok
      have HBB := Lib.hid (HBA.out.trans (hb.mono HBA.out.size))
      have HMB := Lib.hid (HMA.out.below hb HMA.out.lt)
      have HRB := Lib.hid (HRA.out.below hb HRA.out.lt)
      have HFB := Lib.hid (HFA.out.below hb)
      have HKB := Lib.hid (HKA.out.trans (Keep.below hb hFa))
      have hFb : ∀ b, F b → b < wb.heap.size := fun b hx => Nat.lt_of_lt_of_le (hFa b hx) hb.size
      have HWk := Lib.hid hb
      clear hb hok HBA HMA HRA HFA HKA
      go_simp
      refine hK.out _ _ (fun _ => HSS.out _ HFB.out) ?_
      have hHeldk := HSS.out _ HFB.out
      clear hK K
      try simp only [Act.put, List.setIfInBounds_toArray, List.set_cons_zero, List.set_cons_succ, Nat.zero_add]
      refine wpAnyY_one (i := 17) rfl (by kernel_rfl) (fun K hK => ?_)
      go_simp
      refine (cloneRefs_any Sr cr xn.refs wb F hFb (HRR.out.keep ERef.stays HKB.out (fun _ h => h)) HZX.out.2.2).mono ?_
      rintro _ wc ⟨Zr, zr, rfl, hor, hb⟩
      have HOr := Lib.hid hor
      have HBC := Lib.hid (HBB.out.trans (hb.mono HBB.out.size))
      have HMC := Lib.hid (HMB.out.below hb HMB.out.lt)
      have HRC := Lib.hid (HRB.out.below hb HRB.out.lt)
      have HFC := Lib.hid (HFB.out.below hb)
      have HKC := Lib.hid (HKB.out.trans (Keep.below hb hFb))
      have hFc : ∀ b, F b → b < wc.heap.size := fun b hx => Nat.lt_of_lt_of_le (hFb b hx) hb.size
      have HWr := Lib.hid hb
      clear hb hor HBB HMB HRB HFB HKB
      go_simp
      refine hK.out _ _ (fun _ => HSS.out _ HFC.out) ?_
      have hHeldr := HSS.out _ HFC.out
      clear hK K
      try simp only [Act.put, List.setIfInBounds_toArray, List.set_cons_zero, List.set_cons_succ, Nat.zero_add]
      clear hHeld hHeldp hHeldk
      refine wpAnyY_take0 (i := 18) (v := ?_) rfl (by kernel_rfl) (by kernel_rfl) (by kernel_rfl) (by kernel_rfl) (fun _ _ _ h => h) (Or.inl ⟨by rfl, ?_⟩) ?_
      rotate_left 1
      · (intro w' _; go_simp); try with_reducible rfl
      try simp only [Act.put, List.setIfInBounds_toArray, List.set_cons_zero, List.set_cons_succ, Nat.zero_add]
      refine wpAnyY_take (i := 19) (v := ?_) rfl (by kernel_rfl) (by kernel_rfl) (by kernel_rfl) (by kernel_rfl) (fun _ _ _ h => h) (Or.inl ⟨by rfl, ?_⟩) (by assumption) ?_
      rotate_left 1
      · (intro w' hSw; obtain ⟨s0, s1, s2⟩ := hSw; go_simp); try with_reducible rfl
      try simp only [Act.put, List.setIfInBounds_toArray, List.set_cons_zero, List.set_cons_succ, Nat.zero_add]
      have HOki : Hid (OwnI wb wa.heap.size (.slice Zk xn.kids.length zk) xn.kids) := Lib.hid (by have := HOk.out; rw [intCells_map] at this; exact this)
      have hsu := HLU.out.2
      have hs1 := HWp.out.size; have hs2 := HWk.out.size; have hs3 := HWr.out.size
      have HY : Hid (OwnL wc (w.heap.size + 2) ⟨xn, .slice Zp xn.props.length zp, .slice Zk xn.kids.length zk, .slice Zr xn.refs.length zr⟩) := Lib.hid ⟨own_weaken (own_keep (own_keep HOp.out fun b e => HWk.out.block b (HOp.out.lt b e).2) fun b e => HWr.out.block b (Nat.lt_of_lt_of_le (HOp.out.lt b e).2 hs2)) hsu, (OwnI.weaken (own_keep HOki.out fun b e => HWr.out.block b (HOki.out.lt b e).2) (by omega)), own_weaken HOr.out (by omega)⟩
      have HD : Hid (∀ b, (LN.blocks ⟨xn, .slice Zp xn.props.length zp, .slice Zk xn.kids.length zk, .slice Zr xn.refs.length zr⟩).count (some b) ≤ 1) := Lib.hid (cnt3 (fun b e1 e2 => by have := HOp.out.lt b e1; have := HOk.out.lt b e2; omega) (fun b e1 e2 => by have := HOp.out.lt b e1; have := HOr.out.lt b e2; omega) (fun b e1 e2 => by have := HOk.out.lt b e1; have := HOr.out.lt b e2; omega))
      have HSEP : Hid (∀ b, some b ∈ (LN.blocks ⟨xn, .slice Zp xn.props.length zp, .slice Zk xn.kids.length zk, .slice Zr xn.refs.length zr⟩) → b ≠ g ∧ some b ∉ allBlocks l) := Lib.hid (fun b hb => by
        have hge : u.heap.size ≤ b := by
          simp only [LN.blocks, List.mem_cons, List.not_mem_nil, or_false] at hb
          rcases hb with hb | hb | hb
          · have := HOp.out.lt b hb.symm; omega
          · have := HOk.out.lt b hb.symm; omega
          · have := HOr.out.lt b hb.symm; omega
        exact ⟨fun e => by have := HLU.out.1 g (by simp [Value.ownBlock]); omega, fun e => by have := HLU.out.1 b (List.mem_cons_of_mem _ e); omega⟩)
      have HST : Hid (HalfM (((wc.setCell ⟨g, l.length * 7 + 4, none⟩ (.slice Zp xn.props.length zp)).setCell ⟨g, l.length * 7 + 5, none⟩ (.slice Zk xn.kids.length zk)).setCell ⟨g, l.length * 7 + 6, none⟩ (.slice Zr xn.refs.length zr)) (w.heap.size + 2) (.slice (some ⟨g, 0, none⟩) m.nodes.length c') m.nodes.length (l ++ [⟨xn, .slice Zp xn.props.length zp, .slice Zk xn.kids.length zk, .slice Zr xn.refs.length zr⟩]) rest') := Lib.hid (HalfM.step HFC.out (y := ⟨xn, .slice Zp xn.props.length zp, .slice Zk xn.kids.length zk, .slice Zr xn.refs.length zr⟩) rfl HY.out HD.out HSEP.out HLEN.out)
      obtain ⟨c4, c5, c6⟩ := HSS.out _ HFC.out
      have z4 := own_frozen HFC.out.row (l.length * 7 + 4); have z5 := own_frozen HFC.out.row (l.length * 7 + 5); have z6 := own_frozen HFC.out.row (l.length * 7 + 6)
      obtain ⟨wd, hwd⟩ : ∃ x, wc.setCell ⟨g, l.length * 7 + 4, none⟩ (.slice Zp xn.props.length zp) = x := ⟨_, rfl⟩
      have d5 : wd.cell? ⟨g, l.length * 7 + 5, none⟩ = some (.slice Sk xn.kids.length ck) := by rw [← hwd, World.cell?_setCell_other (h := by simp)]; exact c5
      have d6 : wd.cell? ⟨g, l.length * 7 + 6, none⟩ = some (.slice Sr xn.refs.length cr) := by rw [← hwd, World.cell?_setCell_other (h := by simp)]; exact c6
      have y5 : wd.frozen? ⟨g, l.length * 7 + 5, none⟩ = false := by rw [← hwd, World.frozen?_setCell]; exact z5
      have y6 : wd.frozen? ⟨g, l.length * 7 + 6, none⟩ = false := by rw [← hwd, World.frozen?_setCell]; exact z6
      obtain ⟨we, hwe⟩ : ∃ x, wd.setCell ⟨g, l.length * 7 + 5, none⟩ (.slice Zk xn.kids.length zk) = x := ⟨_, rfl⟩
      have e6 : we.cell? ⟨g, l.length * 7 + 6, none⟩ = some (.slice Sr xn.refs.length cr) := by rw [← hwe, World.cell?_setCell_other (h := by simp)]; exact d6
      have x6 : we.frozen? ⟨g, l.length * 7 + 6, none⟩ = false := by rw [← hwe, World.frozen?_setCell]; exact y6
      obtain ⟨wf, hwf⟩ : ∃ x, we.setCell ⟨g, l.length * 7 + 6, none⟩ (.slice Zr xn.refs.length zr) = x := ⟨_, rfl⟩
      have hgw : w.heap.size + 2 ≤ g := hg1
      have HBF : Hid (Below w.heap.size w wf) := Lib.hid (by rw [← hwf, ← hwe, ← hwd]; exact ((HBC.out.setCell (p := ⟨g, _, none⟩) (by show w.heap.size ≤ g; omega) _).setCell (p := ⟨g, _, none⟩) (by show w.heap.size ≤ g; omega) _).setCell (p := ⟨g, _, none⟩) (by show w.heap.size ≤ g; omega) _)
      have HMF : Hid (Blk wf w.heap.size 27 #[.int .i64 m.next, .slice (some ⟨g, 0, none⟩) m.nodes.length c']) := Lib.hid (by rw [← hwf, ← hwe, ← hwd]; exact ((HMC.out.far (by show w.heap.size ≠ g; omega) _).far (by show w.heap.size ≠ g; omega) _).far (by show w.heap.size ≠ g; omega) _)
      have HRF : Hid (Blk wf (w.heap.size + 1) 27 #[.int .i64 0, .slice none 0 0]) := Lib.hid (by rw [← hwf, ← hwe, ← hwd]; exact ((HRC.out.far (by show w.heap.size + 1 ≠ g; omega) _).far (by show w.heap.size + 1 ≠ g; omega) _).far (by show w.heap.size + 1 ≠ g; omega) _)
      have HKF : Hid (Keep F u0 wf) := Lib.hid (by
        rw [← hwf, ← hwe, ← hwd]
        have ne : ∀ (v : World) (j : Nat) (z : Value), Keep F v (v.setCell ⟨g, j, none⟩ z) := fun v j z q hq => World.cell?_of_block (Below.heap_setCell _ _ _ _ (by have := hF _ hq; show q.block ≠ g; omega))
        exact ((HKC.out.trans (ne _ _ _)).trans (ne _ _ _)).trans (ne _ _ _))
      have HSF : Hid (w.heap.size + 2 ≤ wf.heap.size) := Lib.hid (by rw [← hwf, ← hwe, ← hwd]; simp; omega)
      rw [hwd, hwe, hwf] at HST
      refine wpAnyY_one0 (i := 20) rfl (by kernel_rfl) (by kernel_rfl) (fun K hK => ?_)
      go_simp
      (try rw [hwd])
      refine hK.out _ _ ?_
      clear hK K c4 z4 c5 c6 z5 z6
      try simp only [Act.put, List.setIfInBounds_toArray, List.set_cons_zero, List.set_cons_succ, Nat.zero_add]
      refine wpAnyY_take0 (i := 21) (v := ?_) rfl (by kernel_rfl) (by kernel_rfl) (by kernel_rfl) (by kernel_rfl) (fun _ _ _ h => h) (Or.inl ⟨by rfl, ?_⟩) ?_
      rotate_left 1
      · (intro w' _; go_simp); try with_reducible rfl
      try simp only [Act.put, List.setIfInBounds_toArray, List.set_cons_zero, List.set_cons_succ, Nat.zero_add]
      refine wpAnyY_take0 (i := 22) (v := ?_) rfl (by kernel_rfl) (by kernel_rfl) (by kernel_rfl) (by kernel_rfl) (fun _ _ _ h => h) (Or.inl ⟨by rfl, ?_⟩) ?_
      rotate_left 1
      · (intro w' _; go_simp); try with_reducible rfl
      try simp only [Act.put, List.setIfInBounds_toArray, List.set_cons_zero, List.set_cons_succ, Nat.zero_add]
      refine wpAnyY_one0 (i := 23) rfl (by kernel_rfl) (by kernel_rfl) (fun K hK => ?_)
      go_simp
      (try rw [hwe])
      refine hK.out _ _ ?_
      clear hK K d5 y5 d6 y6
      try simp only [Act.put, List.setIfInBounds_toArray, List.set_cons_zero, List.set_cons_succ, Nat.zero_add]
      refine wpAnyY_take0 (i := 24) (v := ?_) rfl (by kernel_rfl) (by kernel_rfl) (by kernel_rfl) (by kernel_rfl) (fun _ _ _ h => h) (Or.inl ⟨by rfl, ?_⟩) ?_
      rotate_left 1
      · (intro w' _; go_simp); try with_reducible rfl
      try simp only [Act.put, List.setIfInBounds_toArray, List.set_cons_zero, List.set_cons_succ, Nat.zero_add]
      refine wpAnyY_take0 (i := 25) (v := ?_) rfl (by kernel_rfl) (by kernel_rfl) (by kernel_rfl) (by kernel_rfl) (fun _ _ _ h => h) (Or.inl ⟨by rfl, ?_⟩) ?_
      rotate_left 1
      · (intro w' _; go_simp); try with_reducible rfl
      try simp only [Act.put, List.setIfInBounds_toArray, List.set_cons_zero, List.set_cons_succ, Nat.zero_add]
      refine wpAnyY_one0 (i := 26) rfl (by kernel_rfl) (by kernel_rfl) (fun K hK => ?_)
      go_simp
      (try rw [hwf])
      refine hK.out _ _ ?_
      clear hK K e6 x6
      try simp only [Act.put, List.setIfInBounds_toArray, List.set_cons_zero, List.set_cons_succ, Nat.zero_add]
      refine wpAnyY_done (by kernel_rfl) ?_ _
      clear hwd hwe hwf HSS
      go_wp2
      go_roundg (m.nodes.length - (l.length + 1))
      case measure => omega
      case rel => exact ⟨l.length + 1, _, rest', by go_num, rfl, by omega, by simp, by rw [← HLR.out]; simp, fun x hx => HRI.out x (by simp [hx]), HBF.out, HSF.out, HMF.out, HRF.out, HKF.out, HST.out⟩
    · have hlt' : ¬ (l.length : Int) < m.nodes.length := by omega
      have hr0 : rest = [] := by
        have := HLEN.out
        rw [List.length_append] at this
        exact List.eq_nil_of_length_eq_zero (by omega)
      subst hr0
      have m0 := HM.out.cell 0
      have r0 := HR.out.cell 0; have r1 := HR.out.cell 1
      have t0 := HR.out.frozen 0; have t1 := HR.out.frozen 1
      simp at m0 r0 r1
      have HON : Hid (OwnM wr (w.heap.size + 2) (.slice S' m.nodes.length c') l) := Lib.hid (HF.out.own (by have := HLEN.out; simpa using this))
      go_wp2
      have hyS := (HR.out.set_ 0 (.int .i64 m.next)).set_ 1 (.slice S' m.nodes.length c')
      have f0 := hyS.cell 0; have f1 := hyS.cell 1
      simp at f0 f1
      have HBW := Lib.hid ((HB.out.setCell (p := ⟨w.heap.size + 1, 0, none⟩) (Nat.le_succ _) (.int .i64 m.next)).setCell (p := ⟨w.heap.size + 1, 1, none⟩) (Nat.le_succ _) (.slice S' m.nodes.length c'))
      refine bodyPost_ret (v := .agg #[.int .i64 m.next, .slice S' m.nodes.length c']) (by simp [results, Try.results39, go_sem, f0, f1]) rfl ⟨_, rfl, l, ?_, by simpa using HLR.out, HBW.out⟩
      refine (HON.out.keep (fun b h1 _ => ?_)).weaken (by omega)
      exact (Below.heap_setCell _ _ _ _ (by show b ≠ w.heap.size + 1; omega)).trans (Below.heap_setCell _ _ _ _ (by show b ≠ w.heap.size + 1; omega))
end Go.Proofs.Ytpjkifbicfcajaa
end
section
/- a past that is somebody's; how many are ahead and behind -/
namespace Go.Proofs.Ytpjkifbicfcajaa
open Go Go.RowKit

set_option maxRecDepth 100000 in
theorem none_any (p n c : Nat) (A : Option Addr) (now : Int) (w : World) (hb : Blk w p 69 #[.slice A n c, .int .i64 now]) (hn : 0 < n) :
    Calls Try.prog 41 #[.pointer (some ⟨p, 0, none⟩)] w fun e w' => e = .returned (.bool false) ∧ w = w' := by
  have b0 := hb.cell 0
  have hlt := hb.lt
  simp at b0
  have hn' : ¬ (n : Int) = 0 := by omega
  go_enter Try.func41, Try.ntmps41
  go_wp2
  go_ret
  exact ⟨by simp; omega, rfl⟩
set_option maxRecDepth 100000 in
theorem depth_any (p n c now : Nat) (A : Option Addr) (w : World) (hb : Blk w p 69 #[.slice A n c, .int .i64 now]) (hn : now < n) (hm : n ≤ 65) :
    Calls Try.prog 33 #[.pointer (some ⟨p, 0, none⟩)] w fun e w' => e = .returned (.tuple #[.int .i64 now, .int .i64 ((n - 1 - now : Nat) : Int)]) ∧ Below w.heap.size w w' := by
  have HN := fun w h => none_any p n c A now w h (by omega)
  have b0 := hb.cell 0; have b1 := hb.cell 1
  have hlt := hb.lt
  simp at b0 b1
  go_enter Try.func33, Try.ntmps33
  go_wp2_with (go_at_call 41; refine (HN _ hb).mono ?_; rintro _ _ ⟨rfl, rfl⟩)
  go_quiet (fail)
  go_wp2
  refine bodyPost_ret (v := .tuple #[.int .i64 now, .int .i64 ((n - 1 - now : Nat) : Int)]) (by simp [results, Try.results33, go_sem]; omega) rfl ⟨rfl, below_drewN (Below.refl _ _) _⟩
set_option maxRecDepth 100000 in
theorem hindex_any (n : Int) (cnt : Nat) (w : World) (hn : InR n) (hc : 0 < cnt) (hm : cnt ≤ 9223372036854775807) :
    Calls Try.prog 15 #[.int .i64 n, .int .i64 cnt] w fun e w' => ∃ k : Nat, k < cnt ∧ e = .returned (.int .i64 k) ∧ w = w' := by
  have hc0 : ¬ (cnt : Int) = 0 := by omega
  have h1 : (n.tmod cnt).natAbs < cnt := by rw [Int.natAbs_tmod]; exact Nat.mod_lt _ (by simpa using hc)
  obtain ⟨r, hr⟩ : ∃ r, n.tmod (cnt : Int) = r := ⟨_, rfl⟩
  have hr' := Lib.hid hr
  rw [hr] at h1
  go_enter Try.func15, Try.ntmps15
  by_cases h0 : r < 0
  · go_wp2
    go_ret
    exact ⟨r.natAbs, h1, by go_num, rfl⟩
  · go_wp2
    go_ret
    exact ⟨r.natAbs, h1, by go_num, rfl⟩
end Go.Proofs.Ytpjkifbicfcajaa
end
section
/- a past that is made, copied; the model that is now -/
namespace Go.Proofs.Ytpjkifbicfcajaa
open Go Go.RowKit

theorem now_lt (P : APast) : P.ahead.length < P.list.length := by rw [P.list_len]; omega
theorem now_here (P : APast) : P.list[P.ahead.length]'(now_lt P) = P.here := by
  have := P.list_here
  rw [List.getElem?_eq_getElem (now_lt P)] at this
  injection this

set_option maxRecDepth 100000 in
set_option maxHeartbeats 2000000 in
theorem now_any (p : Nat) (P : APast) (w : World) (F : Nat → Prop) (hF : ∀ b, F b → b < w.heap.size) (h : IsPast w F p P) (hz : ModAll P.here) :
    Calls Try.prog 32 #[.pointer (some ⟨p, 0, none⟩)] w fun e w' => ∃ v, e = .returned (.agg #[.int .i64 P.here.next, v]) ∧ ∃ l, OwnM w' w.heap.size v l ∧ l.map LN.n = P.here.nodes ∧ Below w.heap.size w w' := by
  obtain ⟨A, c, hb, hc1, hc2, hr⟩ := h
  have hnow := now_lt P
  obtain ⟨b, off, S, cs, rfl, hbF, d0, d1, hs1, hs2, hrow⟩ := model_at hr hnow
  rw [now_here P] at d0 d1 hs1 hrow
  have HROW := Lib.hid hrow
  have hbw := hF b hbF
  have hplt := hb.lt
  have HPB := Lib.hid hb
  have HN := Lib.hid (fun (w' : World) (h : Blk w' p 69 #[.slice (some ⟨b, off, none⟩) P.list.length c, .int .i64 P.ahead.length]) => none_any p P.list.length c (some ⟨b, off, none⟩) P.ahead.length w' h (by omega))
  have HSS : Hid (∀ w', Below w.heap.size w w' → (fun w' : World => w'.cell? ⟨p, 0, none⟩ = some (.slice (some ⟨b, off, none⟩) P.list.length c) ∧ w'.cell? ⟨p, 1, none⟩ = some (.int .i64 P.ahead.length) ∧ w'.cell? ⟨b, off + P.ahead.length * 2, none⟩ = some (.int .i64 P.here.next) ∧ w'.cell? ⟨b, off + P.ahead.length * 2 + 1, none⟩ = some (.slice S P.here.nodes.length cs)) w') := Lib.hid (fun w' hb' => by
    have hb2 := hb.below hb' hplt
    have p0 := hb2.cell 0; have p1 := hb2.cell 1
    simp at p0 p1
    exact ⟨p0, p1, (hb'.cell (p := ⟨b, _, none⟩) hbw).trans d0, (hb'.cell (p := ⟨b, _, none⟩) hbw).trans d1⟩)
  clear hb hr hrow d0 d1 hs1 hs2
  have n0 : (0 : Int) ≤ P.ahead.length := by omega
  have n1 : (P.ahead.length : Int) < P.list.length := by omega
  go_enter Try.func32, Try.ntmps32
  go_upto_region 1 with fail
  obtain ⟨u0, hu0⟩ : ∃ u : World, w.alloc (.cells #[.int .i64 0, .slice none 0 0] 27) = u := ⟨_, rfl⟩
  have HB0 : Hid (Below w.heap.size w u0) := Lib.hid (by rw [← hu0]; exact (Below.refl w.heap.size w).alloc (Nat.le_refl _) _)
  have HR0 : Hid (Blk u0 w.heap.size 27 #[.int .i64 0, .slice none 0 0]) := Lib.hid (by rw [← hu0]; exact Blk.new _ _ _)
  (try rw [hu0])
  clear hu0
  go_wp2_with (go_at_call 41; refine (HN.out _ (HPB.out.below HB0.out hplt)).mono ?_; rintro _ _ ⟨rfl, rfl⟩)
  obtain ⟨u, hu⟩ : ∃ u : World, u0.drew = u := ⟨_, rfl⟩
  have HU : Hid (Below u0.heap.size u0 u) := Lib.hid (by rw [← hu]; exact (Below.refl _ _).drew)
  have HBU := Lib.hid (HB0.out.trans (HU.out.mono HB0.out.size))
  have HRU := Lib.hid (HR0.out.below HU.out HR0.out.lt)
  refine wp_region_Y (S := (fun w' : World => w'.cell? ⟨p, 0, none⟩ = some (.slice (some ⟨b, off, none⟩) P.list.length c) ∧ w'.cell? ⟨p, 1, none⟩ = some (.int .i64 P.ahead.length) ∧ w'.cell? ⟨b, off + P.ahead.length * 2, none⟩ = some (.int .i64 P.here.next) ∧ w'.cell? ⟨b, off + P.ahead.length * 2 + 1, none⟩ = some (.slice S P.here.nodes.length cs))) 11 (by kernel_rfl) (by rw [hu]; exact HSS.out _ HBU.out) (fun hHeld => ?_)
  rw [hu] at hHeld ⊢
  clear hu HU HB0 HR0
  refine wpAnyY_take (i := 0) (v := ?_) rfl (by kernel_rfl) (by kernel_rfl) (by kernel_rfl) (by kernel_rfl) (fun _ _ _ h => h) (Or.inl ⟨by rfl, ?_⟩) (by assumption) ?_
  rotate_left 1
  · (intro w' hSw; obtain ⟨s0, s1, s2, s3⟩ := hSw; go_simp); try with_reducible rfl
  try simp only [Act.put, List.setIfInBounds_toArray, List.set_cons_zero, List.set_cons_succ, Nat.zero_add]
  refine wpAnyY_take (i := 1) (v := ?_) rfl (by kernel_rfl) (by kernel_rfl) (by kernel_rfl) (by kernel_rfl) (fun _ _ _ h => h) (Or.inl ⟨by rfl, ?_⟩) (by assumption) ?_
  rotate_left 1
  · (intro w' hSw; obtain ⟨s0, s1, s2, s3⟩ := hSw; go_simp); try with_reducible rfl
  try simp only [Act.put, List.setIfInBounds_toArray, List.set_cons_zero, List.set_cons_succ, Nat.zero_add]
  refine wpAnyY_take (i := 2) (v := ?_) rfl (by kernel_rfl) (by kernel_rfl) (by kernel_rfl) (by kernel_rfl) (fun _ _ _ h => h) (Or.inl ⟨by rfl, ?_⟩) (by assumption) ?_
  rotate_left 1
  · (intro w' hSw; obtain ⟨s0, s1, s2, s3⟩ := hSw; go_simp); try with_reducible rfl
  try simp only [Act.put, List.setIfInBounds_toArray, List.set_cons_zero, List.set_cons_succ, Nat.zero_add]
  refine wpAnyY_take (i := 3) (v := ?_) rfl (by kernel_rfl) (by kernel_rfl) (by kernel_rfl) (by kernel_rfl) (fun _ _ _ h => h) (Or.inl ⟨by rfl, ?_⟩) (by assumption) ?_
  rotate_left 1
  · (intro w' hSw; obtain ⟨s0, s1, s2, s3⟩ := hSw; go_simp); try with_reducible rfl
  try simp only [Act.put, List.setIfInBounds_toArray, List.set_cons_zero, List.set_cons_succ, Nat.zero_add]
  refine wpAnyY_take (i := 4) (v := ?_) rfl (by kernel_rfl) (by kernel_rfl) (by kernel_rfl) (by kernel_rfl) (fun _ _ _ h => h) (Or.inl ⟨by rfl, ?_⟩) (by assumption) ?_
  rotate_left 1
  · (intro w' hSw; obtain ⟨s0, s1, s2, s3⟩ := hSw; go_simp); try with_reducible rfl
  try simp only [Act.put, List.setIfInBounds_toArray, List.set_cons_zero, List.set_cons_succ, Nat.zero_add]
  refine wpAnyY_take (i := 5) (v := ?_) rfl (by kernel_rfl) (by kernel_rfl) (by kernel_rfl) (by kernel_rfl) (fun _ _ _ h => h) (Or.inl ⟨by rfl, ?_⟩) (by assumption) ?_
  rotate_left 1
  · (intro w' hSw; obtain ⟨s0, s1, s2, s3⟩ := hSw; go_simp); try with_reducible rfl
  try simp only [Act.put, List.setIfInBounds_toArray, List.set_cons_zero, List.set_cons_succ, Nat.zero_add]
  refine wpAnyY_take (i := 6) (v := ?_) rfl (by kernel_rfl) (by kernel_rfl) (by kernel_rfl) (by kernel_rfl) (fun _ _ _ h => h) (Or.inl ⟨by rfl, ?_⟩) (by assumption) ?_
  rotate_left 1
  · (intro w' hSw; obtain ⟨s0, s1, s2, s3⟩ := hSw; go_simp); try with_reducible rfl
  try simp only [Act.put, List.setIfInBounds_toArray, List.set_cons_zero, List.set_cons_succ, Nat.zero_add]
  refine wpAnyY_take (i := 7) (v := ?_) rfl (by kernel_rfl) (by kernel_rfl) (by kernel_rfl) (by kernel_rfl) (fun _ _ _ h => h) (Or.inl ⟨by rfl, ?_⟩) (by assumption) ?_
  rotate_left 1
  · (intro w' hSw; obtain ⟨s0, s1, s2, s3⟩ := hSw; go_simp); try with_reducible rfl
  try simp only [Act.put, List.setIfInBounds_toArray, List.set_cons_zero, List.set_cons_succ, Nat.zero_add]
  refine wpAnyY_take (i := 8) (v := ?_) rfl (by kernel_rfl) (by kernel_rfl) (by kernel_rfl) (by kernel_rfl) (fun _ _ _ h => h) (Or.inl ⟨by rfl, ?_⟩) (by assumption) ?_
  rotate_left 1
  · (intro w' hSw; obtain ⟨s0, s1, s2, s3⟩ := hSw; go_simp); try with_reducible rfl
  try simp only [Act.put, List.setIfInBounds_toArray, List.set_cons_zero, List.set_cons_succ, Nat.zero_add]
  refine wpAnyY_take (i := 9) (v := ?_) rfl (by kernel_rfl) (by kernel_rfl) (by kernel_rfl) (by kernel_rfl) (fun _ _ _ h => h) (Or.inl ⟨by rfl, ?_⟩) (by assumption) ?_
  rotate_left 1
  · (intro w' hSw; obtain ⟨s0, s1, s2, s3⟩ := hSw; go_simp); try with_reducible rfl
  try simp only [Act.put, List.setIfInBounds_toArray, List.set_cons_zero, List.set_cons_succ, Nat.zero_add]
  refine wpAnyY_one (i := 10) rfl (by kernel_rfl) (fun K hK => ?_)
  go_simp
  refine (htwin_any S cs P.here u F (fun b hb => Nat.lt_of_lt_of_le (hF b hb) HBU.out.size) (HROW.out.keep ENode.stays (Keep.below HBU.out hF) (fun _ h => h)) (fun x hx => (hz.1 x hx).2.1) hz.2.2).mono ?_
  rintro _ w1 ⟨v, rfl, l, hown, hmap, hb1⟩
  have HO1 := Lib.hid hown; have HMAP := Lib.hid hmap
  have HB1 := Lib.hid (HBU.out.trans (hb1.mono HBU.out.size))
  have HR1 := Lib.hid (HRU.out.below hb1 HRU.out.lt)
  have HW1 : Hid (w.heap.size < u.heap.size) := Lib.hid HRU.out.lt
  obtain ⟨Av, cv, rfl⟩ := own_shape hown.row
  clear hown hmap hb1
  go_simp
  refine hK.out _ _ (fun _ => HSS.out _ HB1.out) ?_
  have r0 := HR1.out.cell 0; have r1 := HR1.out.cell 1
  have t0 := HR1.out.frozen 0; have t1 := HR1.out.frozen 1
  simp at r0 r1
  clear hK K
  try simp only [Act.put, List.setIfInBounds_toArray, List.set_cons_zero, List.set_cons_succ, Nat.zero_add]
  refine wpAnyY_one0 (i := 11) rfl (by kernel_rfl) (by kernel_rfl) (fun K hK => ?_)
  go_simp
  refine hK.out _ _ ?_
  clear r0 r1 t0 t1
  clear hK K
  try simp only [Act.put, List.setIfInBounds_toArray, List.set_cons_zero, List.set_cons_succ, Nat.zero_add]
  refine wpAnyY_done (by kernel_rfl) ?_ _
  go_wp2
  have hyS := (HR1.out.set_ 0 (.int .i64 P.here.next)).set_ 1 (.slice Av l.length cv)
  have f0 := hyS.cell 0; have f1 := hyS.cell 1
  simp at f0 f1
  have HBW := Lib.hid ((HB1.out.setCell (p := ⟨w.heap.size, 0, none⟩) (Nat.le_refl _) (.int .i64 P.here.next)).setCell (p := ⟨w.heap.size, 1, none⟩) (Nat.le_refl _) (.slice Av l.length cv))
  refine bodyPost_ret (v := .agg #[.int .i64 P.here.next, .slice Av l.length cv]) (by simp [results, Try.results32, go_sem, f0, f1]) rfl ⟨_, rfl, l, ?_, HMAP.out, HBW.out⟩
  refine (HO1.out.keep (fun b h1 _ => ?_)).weaken (by have := HW1.out; omega)
  have h2 := HW1.out
  exact (Below.heap_setCell _ _ _ _ (by show b ≠ w.heap.size; omega)).trans (Below.heap_setCell _ _ _ _ (by show b ≠ w.heap.size; omega))
end Go.Proofs.Ytpjkifbicfcajaa
end
section
/- a past that is made, or copied -/
namespace Go.Proofs.Ytpjkifbicfcajaa
open Go Go.RowKit

open Classical in
theorem checkI_two (m : AModel) : checkI m = 0 ∨ checkI m = 29 := by
  unfold checkI
  cases decide (CheckM m)
  · exact .inr rfl
  · exact .inl rfl
theorem one_model {w : World} {q : Nat} {F : Nat → Prop} {m : AModel} {v : Value} (hb : Blk w q 27 #[.int .i64 m.next, v]) (hv : IsRow 7 ENode w F v m.nodes) (hq : F q) : RowOf 2 EModel w F (some ⟨q, 0, none⟩) [m] := by
  refine ⟨fun _ => ⟨q, 0, rfl, hq⟩, fun i hi => ⟨[.int .i64 m.next, v], rfl, ?_, fun b off e j hj => ?_⟩⟩
  · have hi0 : i = 0 := by simp at hi; omega
    subst hi0
    exact ⟨v, rfl, hv⟩
  · have hi0 : i = 0 := by simp at hi; omega
    subst hi0
    cases e
    rw [hb.cell]
    simp
set_option maxRecDepth 100000 in
set_option maxHeartbeats 2000000 in
theorem new_any (A : Option Addr) (c : Nat) (m : AModel) (w : World) (F : Nat → Prop) (hF : ∀ b, F b → b < w.heap.size) (h : RowOf 7 ENode w F A m.nodes) (hz : ModAll m) :
    Calls Try.prog 12 #[.agg #[.int .i64 m.next, .slice A m.nodes.length c]] w fun e w' => ∃ pv, e = .returned (.tuple #[pv, .int .i64 (checkI m)]) ∧ Below w.heap.size w w' ∧ (checkI m ≠ 0 → pv = .pointer none) ∧
      (checkI m = 0 → ∃ p, pv = .pointer (some ⟨p, 0, none⟩) ∧ w.heap.size ≤ p ∧ IsPast w' (fun b => w.heap.size ≤ b ∧ b < p) p ⟨[], m, []⟩) := by
  rcases checkI_two m with hE | hE
  · have HC : Hid (∀ w', Below w.heap.size w w' → Calls Try.prog 30 #[.agg #[.int .i64 m.next, .slice A m.nodes.length c]] w' fun e w2 => e = .returned (.int .i64 0) ∧ Below w'.heap.size w' w2) := Lib.hid (fun w' hb => by
      have := check_any A c m w' F (fun b hx => Nat.lt_of_lt_of_le (hF b hx) hb.size) (h.keep ENode.stays (Keep.below hb hF) (fun _ h => h)) (fun x hx => (hz.1 x hx).1) (by have := hz.2.2; omega)
      rw [hE] at this
      exact this)
    rw [hE]
    have HE := Lib.hid hE; have HH := Lib.hid h
    clear hE h
    go_enter Try.func12, Try.ntmps12
    go_upto_region 1 with fail
    obtain ⟨u0, hu0⟩ : ∃ u : World, w.alloc (.cells #[.int .i64 m.next, .slice A m.nodes.length c] 27) = u := ⟨_, rfl⟩
    have HB0 : Hid (Below w.heap.size w u0) := Lib.hid (by rw [← hu0]; exact (Below.refl w.heap.size w).alloc (Nat.le_refl _) _)
    have HM0 : Hid (Blk u0 w.heap.size 27 #[.int .i64 m.next, .slice A m.nodes.length c]) := Lib.hid (by rw [← hu0]; exact Blk.new _ _ _)
    have m0 := HM0.out.cell 0; have m1 := HM0.out.cell 1
    have hmlt := HM0.out.lt
    simp at m0 m1
    (try rw [hu0])
    clear hu0
    go_wp2_with fail
    refine (HC.out _ HB0.out).mono ?_
    rintro _ w1 ⟨rfl, hb⟩
    have HB1 := Lib.hid (HB0.out.trans (hb.mono HB0.out.size))
    have HM1 := Lib.hid (HM0.out.below hb hmlt)
    clear hb HB0 HM0 m0 m1 hmlt
    have m0 := HM1.out.cell 0; have m1 := HM1.out.cell 1
    have hmlt := HM1.out.lt
    simp at m0 m1
    go_wp2_with fail
    refine (htwin_any A c m w1 F (fun b hb => Nat.lt_of_lt_of_le (hF b hb) HB1.out.size) (HH.out.keep ENode.stays (Keep.below HB1.out hF) (fun _ h => h)) (fun x hx => (hz.1 x hx).2.1) hz.2.2).mono ?_
    rintro _ w2 ⟨v, rfl, l, hown, hmap, hb⟩
    have HO := Lib.hid hown; have HMAP := Lib.hid hmap
    have HB2 := Lib.hid (HB1.out.trans (hb.mono HB1.out.size))
    have HS2 : Hid (w.heap.size ≤ w1.heap.size ∧ w1.heap.size ≤ w2.heap.size) := Lib.hid ⟨HB1.out.size, hb.size⟩
    obtain ⟨Av, cv, rfl⟩ : ∃ A c, v = .slice A m.nodes.length c := by
      obtain ⟨A', c', e⟩ := own_shape hown.row
      exact ⟨A', c', by rw [e, ← hmap, List.length_map]⟩
    clear hown hmap hb m0 m1 hmlt
    obtain ⟨q, hq⟩ : ∃ q, w2.heap.size = q := ⟨_, rfl⟩
    go_wp2
    have hB3 : Below w.heap.size w ((w2.alloc (.cells #[.int .i64 m.next, .slice Av m.nodes.length cv] 27)).alloc (.cells #[.slice (some ⟨q, 0, none⟩) 1 1, .int .i64 0] 69)) := (HB2.out.alloc HB2.out.size _).alloc (by have := HB2.out.size; simp; omega) _
    refine bodyPost_ret (v := .tuple #[.pointer (some ⟨q + 1, 0, none⟩), .int .i64 0]) (by simp [results, Try.results12, go_sem, hq]) rfl ⟨_, rfl, by rw [← hq] at hB3 ⊢; exact hB3, fun e => absurd rfl e, fun _ => ⟨q + 1, rfl, by have := HS2.out; omega, some ⟨q, 0, none⟩, 1, ?_, by simp [APast.list], by unfold maxLen; omega, ?_⟩⟩
    · exact Blk.new' (by simp [hq])
    · refine one_model (v := .slice Av m.nodes.length cv) ((Blk.new' hq.symm).alloc _) ?_ (by have := HS2.out; omega)
      have := HO.out.isRow (F := fun b => w.heap.size ≤ b ∧ b < q) (fun b h1 h2 => ⟨by have := HS2.out; omega, by omega⟩)
      rw [HMAP.out] at this
      exact this.keep ENode.stays (Keep.below (((Below.refl w2.heap.size w2).alloc (Nat.le_refl _) _).alloc (by simp) _) (fun b hb => by have := hb.2; omega)) (fun b hb => ⟨hb.1, by have := hb.2; omega⟩)
  · have HC : Hid (∀ w', Below w.heap.size w w' → Calls Try.prog 30 #[.agg #[.int .i64 m.next, .slice A m.nodes.length c]] w' fun e w2 => e = .returned (.int .i64 29) ∧ Below w'.heap.size w' w2) := Lib.hid (fun w' hb => by
      have := check_any A c m w' F (fun b hx => Nat.lt_of_lt_of_le (hF b hx) hb.size) (h.keep ENode.stays (Keep.below hb hF) (fun _ h => h)) (fun x hx => (hz.1 x hx).1) (by have := hz.2.2; omega)
      rw [hE] at this
      exact this)
    rw [hE]
    have HE := Lib.hid hE; have HH := Lib.hid h
    clear hE h
    go_enter Try.func12, Try.ntmps12
    go_upto_region 1 with fail
    obtain ⟨u0, hu0⟩ : ∃ u : World, w.alloc (.cells #[.int .i64 m.next, .slice A m.nodes.length c] 27) = u := ⟨_, rfl⟩
    have HB0 : Hid (Below w.heap.size w u0) := Lib.hid (by rw [← hu0]; exact (Below.refl w.heap.size w).alloc (Nat.le_refl _) _)
    have HM0 : Hid (Blk u0 w.heap.size 27 #[.int .i64 m.next, .slice A m.nodes.length c]) := Lib.hid (by rw [← hu0]; exact Blk.new _ _ _)
    have m0 := HM0.out.cell 0; have m1 := HM0.out.cell 1
    have hmlt := HM0.out.lt
    simp at m0 m1
    (try rw [hu0])
    clear hu0
    go_wp2_with fail
    refine (HC.out _ HB0.out).mono ?_
    rintro _ w1 ⟨rfl, hb⟩
    have HB1 := Lib.hid (HB0.out.trans (hb.mono HB0.out.size))
    have HM1 := Lib.hid (HM0.out.below hb hmlt)
    clear hb HB0 HM0 m0 m1 hmlt
    have m0 := HM1.out.cell 0; have m1 := HM1.out.cell 1
    have hmlt := HM1.out.lt
    simp at m0 m1
    go_wp2
    refine bodyPost_ret (v := .tuple #[.pointer none, .int .i64 29]) (by simp [results, Try.results12, go_sem]) rfl ⟨_, rfl, HB1.out, fun _ => rfl, fun e => by cases e⟩
end Go.Proofs.Ytpjkifbicfcajaa
end
