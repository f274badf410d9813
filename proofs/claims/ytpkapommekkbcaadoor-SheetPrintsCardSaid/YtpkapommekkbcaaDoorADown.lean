import Derived.Test.YtpkapommekkbcaaDoorAIn
set_option linter.unusedSimpArgs false
set_option linter.unusedVariables false
namespace Go.Proofs.YtpkapommekkbcaaDoor
open Go Go.RowKit

def spread (m : AModel) (l : List Int) : List Int := l.flatMap fun k => k :: belowL m k
theorem spread_append (m : AModel) (a b : List Int) : spread m (a ++ b) = spread m a ++ spread m b := List.flatMap_append
theorem spread_cons (m : AModel) (k : Int) (b : List Int) : spread m (k :: b) = (k :: belowL m k) ++ spread m b := List.flatMap_cons
theorem spread_len (m : AModel) (l : List Int) : l.length ≤ (spread m l).length := by
  induction l with
  | nil => simp
  | cons k r ih => rw [spread_cons, List.length_append, List.length_cons, List.length_cons]; omega
/-- the state of the walk by a stack: at the start, or behind it -/
def Stk (m : AModel) (x : ANode) (g : Nat) (out stack : List Int) : Prop :=
  (out = [] ∧ stack = [x.id] ∧ g = (belowL m x.id).length + 1) ∨ (out ++ spread m stack.reverse = belowL m x.id ∧ g = (spread m stack.reverse).length)
theorem Stk.lens {m : AModel} {x : ANode} {g : Nat} {out stack : List Int} (h : Stk m x g out stack) : out.length + stack.length ≤ (belowL m x.id).length + 1 := by
  rcases h with ⟨rfl, rfl, _⟩ | ⟨h, _⟩
  · simp
  · have h1 := congrArg List.length h
    have h2 := spread_len m stack.reverse
    rw [List.length_append] at h1
    rw [List.length_reverse] at h2
    omega
/-- the top is a node; it is the first one, or comes next -/
theorem Stk.top {m : AModel} {x : ANode} {g : Nat} {out st : List Int} {t : Int} (hT : Tree m) (hx : x ∈ m.nodes) (h : Stk m x g out (st ++ [t])) :
    ∃ y ∈ m.nodes, y.id = t ∧ ∃ g', g' < g ∧ ((t = x.id ∧ Stk m x g' out (st ++ y.kids.reverse)) ∨ (t ≠ x.id ∧ Stk m x g' (out ++ [t]) (st ++ y.kids.reverse))) := by
  rcases h with ⟨rfl, h1, rfl⟩ | ⟨h1, rfl⟩
  · have hl := congrArg List.length h1
    simp at hl
    subst hl
    simp at h1
    subst h1
    refine ⟨x, hx, rfl, (belowL m x.id).length, by omega, .inl ⟨rfl, .inr ⟨?_, ?_⟩⟩⟩
    · simp only [List.nil_append, List.reverse_reverse]; exact (hT.below_eq hx).symm
    · simp only [List.nil_append, List.reverse_reverse]; rw [hT.below_eq hx]; rfl
  · rw [List.reverse_append, List.reverse_singleton, List.singleton_append, spread_cons] at h1
    have hm : t ∈ belowL m x.id := by rw [← h1]; simp
    obtain ⟨y, hy, rfl⟩ := hT.below_node x hx t hm
    have hne : y.id ≠ x.id := fun e => hT.not_below hx (by rw [e] at hm; exact hm)
    refine ⟨y, hy, rfl, (spread m (st ++ y.kids.reverse).reverse).length, ?_, .inr ⟨hne, .inr ⟨?_, rfl⟩⟩⟩
    · rw [List.reverse_append, List.reverse_append, List.reverse_reverse, List.reverse_singleton, List.singleton_append, spread_append, spread_cons]
      have : spread m y.kids = belowL m y.id := (hT.below_eq hy).symm
      rw [this]; simp
    · rw [List.reverse_append, List.reverse_reverse, spread_append]
      have : spread m y.kids = belowL m y.id := (hT.below_eq hy).symm
      rw [this, ← h1]; simp
theorem Stk.done {m : AModel} {x : ANode} {g : Nat} {out : List Int} (h : Stk m x g out []) : out = belowL m x.id := by
  rcases h with ⟨_, h, _⟩ | ⟨h, _⟩
  · cases h
  · simpa [spread] using h
def Apart (a b : Value) : Prop := a.ownBlock = none ∨ a.ownBlock ≠ b.ownBlock

set_option maxRecDepth 100000 in
set_option maxHeartbeats 2000000 in
theorem down_any (A : Option Addr) (c : Nat) (m : AModel) (w : World) (F : Nat → Prop) (hF : ∀ b, F b → b < w.heap.size) (h : RowOf 7 ENode w F A m.nodes) (hT : Tree m) (hs : SrtB m.nodes) (hk4 : ∀ x ∈ m.nodes, x.kids.length ≤ 4096) (hl4 : m.nodes.length ≤ 4096) (x : ANode) (hx : x ∈ m.nodes) :
    Calls Tryd.prog 40 #[.agg #[.int .i64 m.next, .slice A m.nodes.length c], .int .i64 x.id] w fun e w' => ∃ v, e = .returned v ∧ OwnI w' w.heap.size v (belowL m x.id) ∧ Below w.heap.size w w' := by
  have HH := Lib.hid h; have HT := Lib.hid hT; have HX := Lib.hid hx; have HK4 := Lib.hid hk4; have HS := Lib.hid hs
  have hlb := hT.below_len hx
  clear h hT hx hk4 hs
  go_enter Tryd.func40, Tryd.ntmps40
  go_wp2_with fail
  go_loopg [5, 6] ((belowL m x.id).length + 1) (fun g s5 s6 wx => ∃ (vo vs : Value) (out stack : List Int), s5 = vo ∧ s6 = vs ∧ Stk m x g out stack ∧ Below w.heap.size w wx ∧ Blk wx w.heap.size 24 #[.int .i64 m.next, .slice A m.nodes.length c] ∧ OwnI wx (w.heap.size + 1) vo out ∧ OwnI wx (w.heap.size + 1) vs stack ∧ Apart vo vs)
  case atStart => exact ⟨_, _, [], [x.id], rfl, rfl, .inl ⟨rfl, rfl, rfl⟩, ((Below.refl _ _).alloc (Nat.le_refl _) _).alloc (by simp) _, (Blk.new _ _ _).alloc _, OwnI.nil _ _, by
    have := OwnI.one (w.alloc (.cells #[.int .i64 m.next, .slice A m.nodes.length c] 24)) (base := w.heap.size + 1) (by simp) x.id
    simpa using this, .inl rfl⟩
  case round =>
    obtain ⟨vo, vs, out, stack, rfl, rfl, hS, hb, hmb, hoo, hos, hap⟩ := hrel
    have hlens := hS.lens
    have HB := Lib.hid hb; have HM := Lib.hid hmb; have HOO := Lib.hid hoo; have HAP := Lib.hid hap
    have m0 := hmb.cell 0; have m1 := hmb.cell 1
    have hmlt := hmb.lt
    have hsz := hb.size
    simp at m0 m1
    rcases List.eq_nil_or_concat stack with rfl | ⟨st, t, rfl⟩
    · have HD := Lib.hid hS.done
      obtain ⟨A1, c1, rfl⟩ := hos.shape
      clear hS hb hmb hoo hos hap
      go_wp2
      go_ret
      exact ⟨_, rfl, by rw [← HD.out]; exact HOO.out.weaken (Nat.le_succ _), HB.out⟩
    · rw [List.concat_eq_append] at hS hos hlens
      obtain ⟨A1, c1, rfl⟩ := hos.shape
      obtain ⟨A2, c2, rfl⟩ := hoo.shape
      have hl1 : (st ++ [t]).length = st.length + 1 := by simp
      rw [hl1] at hos HAP
      obtain ⟨g1, rfl, hc1, hc1', _, _⟩ := own_pos (n := st.length + 1) (by have := hos; unfold OwnI at this; rw [hl1] at this; exact this) (by omega)
      have hpop := Lib.hid hos.pop.2
      have hrow := hos.isRow (F := fun b => b < wr.heap.size) (fun b _ h => h)
      obtain ⟨_, _, e0, _, _, hrow⟩ := hrow
      obtain ⟨b', off', e1, _, hcell⟩ := int_at hrow (i := st.length) (by simp)
      injection e0 with e0 e4 e5
      clear e4 e5
      rw [← e0] at e1
      injection e1 with e1
      injection e1 with e1 e2
      subst e1; subst e2
      simp at hcell
      obtain ⟨y, hy, hyt, g', hg', hcase⟩ := hS.top HT.out HX.out
      have HCS := Lib.hid hcase
      rw [hl1]
      have HYT := Lib.hid hyt
      clear hS hb hmb hoo hos hap e0 hrow hcase hl1 hyt
      unfold maxLen at hc1'
      obtain ⟨j, hj, hje⟩ := List.getElem_of_mem hy
      have HJE := Lib.hid hje
      have HAT : Hid (atI m.nodes t = j) := Lib.hid (by rw [← HYT.out, ← hje]; exact atI_some HS.out.1 hj rfl)
      have j0 : (0 : Int) ≤ j := by omega
      have j1 : (j : Int) < m.nodes.length := by omega
      have hky := HK4.out y hy
      clear hje hy m0 m1 hmlt hsz
      rcases HCS.out with ⟨hti, hstk⟩ | ⟨hti, hstk⟩
      · have hne : (t != x.id) = false := bne_eq_false_iff_eq.2 hti
        have HSTK := Lib.hid hstk
        clear hti hstk HCS
        have m0 := HM.out.cell 0; have m1 := HM.out.cell 1
        have hmlt := HM.out.lt
        have hsz := HB.out.size
        simp at m0 m1
        obtain ⟨b, off, Sp, cp, Sk, ck, Sr, cr, rfl, hbF, d0, d1, d2, d3, d4, d5, d6, _, ⟨hk1, hk2, hk3⟩, _⟩ := node_at (RowOf.keep ENode.stays (Keep.below HB.out hF) (F' := F) (fun _ h => h) HH.out) hj
        rw [HJE.out] at d5 hk1 hk3
        have HK3 := Lib.hid hk3
        have CP := Lib.hid (fun (d : Nat) (os : Array Obj) => Calls.regrown_of (w := wr) (d := d) (os := os) (by
          have hbg := HB.out.trans ((below_regrown wr d os).mono HB.out.size)
          have := at_any (some ⟨b, off, none⟩) c m.next t m.nodes (Sort.grow (redrawn wr d) os) F (fun b hb' => Nat.lt_of_lt_of_le (hF b hb') hbg.size) (HH.out.keep ENode.stays (Keep.below hbg hF) (fun _ h => h)) HS.out.1 (by omega)
          rw [HAT.out] at this; exact this))
        clear d0 d1 d2 d3 d4 d6 hk3
        unfold maxLen at hk2
        go_wp2_with fail
        have k0 := cell_regrown m0; have k1 := cell_regrown m1; have k5 := cell_regrown d5
        clear m0 m1 d5
        refine wp_region_quiet_below (by kernel_rfl) (by kernel_rfl) ?_
        repeat (first | go_big_quiet_step (exact CP.out _ _) | quiet_step (exact CP.out _ _))
        refine wpQuiet_nil ?_
        intro _ hw'
        obtain ⟨⟨dq, osq⟩, hw''⟩ := hw'
        subst hw''
        have HB5 := Lib.hid (HB.out.trans ((below_regrown wr dq osq).mono HB.out.size))
        have HM5 := Lib.hid (HM.out.below (below_regrown wr dq osq) hmlt)
        have HO5 := Lib.hid (HOO.out.below (below_regrown wr dq osq))
        have HP5 := Lib.hid (hpop.out.below (below_regrown wr dq osq))
        have HROW := Lib.hid (RowOf.keep EInt.stays (Keep.below (below_regrown wr dq osq) (fun b hb => Nat.lt_of_lt_of_le (hF b hb) hsz)) (F' := F) (fun _ h => h) HK3.out)
        clear k0 k1 k5 CP hmlt
        obtain ⟨wi, hwi⟩ : ∃ u : World, Sort.grow (redrawn wr dq) osq = u := ⟨_, rfl⟩
        rw [hwi] at HB5 HM5 HO5 HP5 HROW ⊢
        clear hwi HK3
        go_wp2_with fail
        go_loopg [6, 9] y.kids.length (fun g s6 s9 wx => ∃ (n : Nat) (vs : Value), s9 = .int .i64 ((n : Int) - 1) ∧ s6 = vs ∧ g = n ∧ n ≤ y.kids.length ∧ Below w.heap.size w wx ∧ Blk wx w.heap.size 24 #[.int .i64 m.next, .slice (some ⟨b, off, none⟩) m.nodes.length c] ∧ OwnI wx (w.heap.size + 1) (.slice A2 (out).length c2) (out) ∧ OwnI wx (w.heap.size + 1) vs (st ++ (y.kids.drop n).reverse) ∧ Apart (.slice A2 (out).length c2) vs)
        case atStart => exact ⟨y.kids.length, _, rfl, rfl, rfl, Nat.le_refl _, HB5.out, HM5.out, HO5.out, by simpa using HP5.out, HAP.out⟩
        case round =>
          obtain ⟨n, vs, rfl, rfl, hgn, hn, hb6, hm6, ho6, hp6, hap6⟩ := hrel
          obtain ⟨A6, c6, rfl⟩ := hp6.shape
          have HB6 := Lib.hid hb6; have HM6 := Lib.hid hm6; have HO6 := Lib.hid ho6; have HP6 := Lib.hid hp6; have HAP6 := Lib.hid hap6
          have hsz6 := hb6.size
          have hmlt6 := hm6.lt
          have HGN := Lib.hid hgn
          clear hb6 hm6 ho6 hp6 hap6 hgn
          rcases n with _ | n
          · have g0 : decide ((0 : Int) ≤ ((0 : Nat) : Int) - 1) = false := by decide
            go_wp2
            go_roundg g'
            case measure => exact hg'
            case rel => exact ⟨_, _, out, st ++ y.kids.reverse, rfl, rfl, HSTK.out, HB6.out, HM6.out, HO6.out, by simpa using HP6.out, HAP6.out⟩
          · obtain ⟨b', off', rfl, _, e0⟩ := int_at (RowOf.keep EInt.stays (Keep.both HB5.out HB6.out hF) (F' := F) (fun _ h => h) HROW.out) (show n < y.kids.length by omega)
            have n0 : (0 : Int) ≤ n := by omega
            have n1 : (n : Int) < y.kids.length := by omega
            have hdl : (st ++ (y.kids.drop (n + 1)).reverse).length ≤ 8192 := by
              have h1 := HSTK.out.lens
              simp only [List.length_append, List.length_reverse, List.length_drop] at h1 ⊢
              omega
            have HDR : Hid (st ++ (y.kids.drop n).reverse = (st ++ (y.kids.drop (n + 1)).reverse) ++ [y.kids[n]]) := Lib.hid (by rw [List.drop_eq_getElem_cons (show n < y.kids.length by omega), List.reverse_cons, List.append_assoc])
            obtain ⟨L, hL⟩ : ∃ L, st ++ (y.kids.drop (n + 1)).reverse = L := ⟨_, rfl⟩
            rw [hL] at HP6 HAP6 HDR hdl ⊢
            clear hL
            have HOW1 := Lib.hid (HP6.out.alloc (.cells #[.int .i64 y.kids[n]] 3))
            go_wp2_with (at_builtin; refine wpList_pushI rfl (.tmp 48) (.tmp 53) rfl ?b1 HOW1.out y.kids[n] wr.heap.size ?b2 ?b3 ?b4 ?b5 ?b6)
            try (case b1 => rfl)
            try (case b2 => rfl)
            try (case b3 => exact Blk.new _ _ _)
            try (case b4 => omega)
            try (case b5 => simp; omega)
            case b6 =>
              intro A7 c7 w7 own7 hg7 hat7
              have HOW7 := Lib.hid own7
              have HB7 := Lib.hid ((HB6.out.alloc hsz6 _).grown hg7 (by simp; omega) (fun b e => Nat.le_of_succ_le (HP6.out.lt b e).1))
              have HM7 := Lib.hid ((HM6.out.alloc (.cells #[.int .i64 y.kids[n]] 3)).grown hg7 (fun e => by have := (HP6.out.lt _ e.symm).1; omega))
              have HO7 := Lib.hid ((HO6.out.alloc (.cells #[.int .i64 y.kids[n]] 3)).kept hg7 HAP6.out)
              have HAP7 : Hid (Apart (.slice A2 (out).length c2) (.slice A7 (L.length + 1) c7)) := Lib.hid (by
                rcases hat7 with h7 | h7
                · unfold Apart at *; rw [h7]; exact HAP6.out
                · unfold Apart
                  cases hob : (Value.slice A2 (out).length c2).ownBlock with
                  | none => exact .inl rfl
                  | some q => refine .inr (fun e => ?_); rw [h7] at e; have := (HO6.out.lt q hob).2; simp at e; omega)
              clear own7 hg7 hat7
              go_wp2
              go_roundg n
              case measure => have := HGN.out; omega
              case rel => exact ⟨n, _, rfl, rfl, rfl, by omega, HB7.out, HM7.out, HO7.out, by rw [HDR.out]; exact HOW7.out, HAP7.out⟩
      · have hne : (t != x.id) = true := bne_iff_ne.2 hti
        have HSTK := Lib.hid hstk
        clear hti hstk HCS
        have HOW1 := Lib.hid (HOO.out.alloc (.cells #[.int .i64 t] 3))
        have hszr := HB.out.size
        have hmltr := HM.out.lt
        go_wp2_with (at_builtin; refine wpList_pushI rfl (.tmp 29) (.tmp 31) rfl ?a1 HOW1.out t wr.heap.size ?a2 ?a3 ?a4 ?a5 ?a6)
        try (case a1 => rfl)
        try (case a2 => rfl)
        try (case a3 => exact Blk.new _ _ _)
        try (case a4 => omega)
        try (case a5 => simp; omega)
        case a6 =>
          intro A3 c3 w3 own3 hg3 hat3
          obtain ⟨o2, ho2⟩ : ∃ o, out ++ [t] = o := ⟨_, rfl⟩
          have hl3 : out.length + 1 = o2.length := by rw [← ho2]; simp
          rw [ho2] at own3 HSTK
          rw [hl3] at own3 hat3 ⊢
          have HOW3 := Lib.hid own3
          have HB3 := Lib.hid ((HB.out.alloc hszr _).grown hg3 (by simp; omega) (fun b e => Nat.le_of_succ_le (HOO.out.lt b e).1))
          have HM3 := Lib.hid ((HM.out.alloc (.cells #[.int .i64 t] 3)).grown hg3 (fun e => by have := (HOO.out.lt _ e.symm).1; omega))
          have HP3 := Lib.hid ((hpop.out.alloc (.cells #[.int .i64 t] 3)).kept hg3 (by
            rcases HAP.out with h3 | h3
            · exact .inr (fun e => by rw [h3] at e; cases e)
            · exact .inr (fun e => h3 e.symm)))
          have HAP3 : Hid (Apart (.slice A3 o2.length c3) (.slice (some ⟨g1, 0, none⟩) (st.length + 1) c1)) := Lib.hid (by
            rcases hat3 with h3 | h3
            · unfold Apart at *; rw [h3]; exact HAP.out
            · unfold Apart; refine .inr (fun e => ?_); rw [h3] at e; have := (hpop.out.lt g1 rfl).2; simp [Value.ownBlock] at e; omega)
          clear own3 hg3 hat3 hl3 ho2 HOW1 HB HM HOO HAP hpop
          have m0 := HM3.out.cell 0; have m1 := HM3.out.cell 1
          have hmlt := HM3.out.lt
          have hsz := HB3.out.size
          simp at m0 m1
          obtain ⟨b, off, Sp, cp, Sk, ck, Sr, cr, rfl, hbF, d0, d1, d2, d3, d4, d5, d6, _, ⟨hk1, hk2, hk3⟩, _⟩ := node_at (RowOf.keep ENode.stays (Keep.below HB3.out hF) (F' := F) (fun _ h => h) HH.out) hj
          rw [HJE.out] at d5 hk1 hk3
          have HK3 := Lib.hid hk3
          have CP := Lib.hid (fun (d : Nat) (os : Array Obj) => Calls.regrown_of (w := w3) (d := d) (os := os) (by
            have hbg := HB3.out.trans ((below_regrown w3 d os).mono HB3.out.size)
            have := at_any (some ⟨b, off, none⟩) c m.next t m.nodes (Sort.grow (redrawn w3 d) os) F (fun b hb' => Nat.lt_of_lt_of_le (hF b hb') hbg.size) (HH.out.keep ENode.stays (Keep.below hbg hF) (fun _ h => h)) HS.out.1 (by omega)
            rw [HAT.out] at this; exact this))
          clear d0 d1 d2 d3 d4 d6 hk3
          unfold maxLen at hk2
          go_wp2_with fail
          have k0 := cell_regrown m0; have k1 := cell_regrown m1; have k5 := cell_regrown d5
          clear m0 m1 d5
          refine wp_region_quiet_below (by kernel_rfl) (by kernel_rfl) ?_
          repeat (first | go_big_quiet_step (exact CP.out _ _) | quiet_step (exact CP.out _ _))
          refine wpQuiet_nil ?_
          intro _ hw'
          obtain ⟨⟨dq, osq⟩, hw''⟩ := hw'
          subst hw''
          have HB5 := Lib.hid (HB3.out.trans ((below_regrown w3 dq osq).mono HB3.out.size))
          have HM5 := Lib.hid (HM3.out.below (below_regrown w3 dq osq) hmlt)
          have HO5 := Lib.hid (HOW3.out.below (below_regrown w3 dq osq))
          have HP5 := Lib.hid (HP3.out.below (below_regrown w3 dq osq))
          have HROW := Lib.hid (RowOf.keep EInt.stays (Keep.below (below_regrown w3 dq osq) (fun b hb => Nat.lt_of_lt_of_le (hF b hb) hsz)) (F' := F) (fun _ h => h) HK3.out)
          clear k0 k1 k5 CP hmlt
          obtain ⟨wi, hwi⟩ : ∃ u : World, Sort.grow (redrawn w3 dq) osq = u := ⟨_, rfl⟩
          rw [hwi] at HB5 HM5 HO5 HP5 HROW ⊢
          clear hwi HK3
          go_wp2_with fail
          go_loopg [6, 9] y.kids.length (fun g s6 s9 wx => ∃ (n : Nat) (vs : Value), s9 = .int .i64 ((n : Int) - 1) ∧ s6 = vs ∧ g = n ∧ n ≤ y.kids.length ∧ Below w.heap.size w wx ∧ Blk wx w.heap.size 24 #[.int .i64 m.next, .slice (some ⟨b, off, none⟩) m.nodes.length c] ∧ OwnI wx (w.heap.size + 1) (.slice A3 (o2).length c3) (o2) ∧ OwnI wx (w.heap.size + 1) vs (st ++ (y.kids.drop n).reverse) ∧ Apart (.slice A3 (o2).length c3) vs)
          case atStart => exact ⟨y.kids.length, _, rfl, rfl, rfl, Nat.le_refl _, HB5.out, HM5.out, HO5.out, by simpa using HP5.out, HAP3.out⟩
          case round =>
            obtain ⟨n, vs, rfl, rfl, hgn, hn, hb6, hm6, ho6, hp6, hap6⟩ := hrel
            obtain ⟨A6, c6, rfl⟩ := hp6.shape
            have HB6 := Lib.hid hb6; have HM6 := Lib.hid hm6; have HO6 := Lib.hid ho6; have HP6 := Lib.hid hp6; have HAP6 := Lib.hid hap6
            have hsz6 := hb6.size
            have hmlt6 := hm6.lt
            have HGN := Lib.hid hgn
            clear hb6 hm6 ho6 hp6 hap6 hgn
            rcases n with _ | n
            · have g0 : decide ((0 : Int) ≤ ((0 : Nat) : Int) - 1) = false := by decide
              go_wp2
              go_roundg g'
              case measure => exact hg'
              case rel => exact ⟨_, _, o2, st ++ y.kids.reverse, rfl, rfl, HSTK.out, HB6.out, HM6.out, HO6.out, by simpa using HP6.out, HAP6.out⟩
            · obtain ⟨b', off', rfl, _, e0⟩ := int_at (RowOf.keep EInt.stays (Keep.both HB5.out HB6.out hF) (F' := F) (fun _ h => h) HROW.out) (show n < y.kids.length by omega)
              have n0 : (0 : Int) ≤ n := by omega
              have n1 : (n : Int) < y.kids.length := by omega
              have hdl : (st ++ (y.kids.drop (n + 1)).reverse).length ≤ 8192 := by
                have h1 := HSTK.out.lens
                simp only [List.length_append, List.length_reverse, List.length_drop] at h1 ⊢
                omega
              have HDR : Hid (st ++ (y.kids.drop n).reverse = (st ++ (y.kids.drop (n + 1)).reverse) ++ [y.kids[n]]) := Lib.hid (by rw [List.drop_eq_getElem_cons (show n < y.kids.length by omega), List.reverse_cons, List.append_assoc])
              obtain ⟨L, hL⟩ : ∃ L, st ++ (y.kids.drop (n + 1)).reverse = L := ⟨_, rfl⟩
              rw [hL] at HP6 HAP6 HDR hdl ⊢
              clear hL
              have HOW1 := Lib.hid (HP6.out.alloc (.cells #[.int .i64 y.kids[n]] 3))
              go_wp2_with (at_builtin; refine wpList_pushI rfl (.tmp 48) (.tmp 53) rfl ?d1 HOW1.out y.kids[n] wr.heap.size ?d2 ?d3 ?d4 ?d5 ?d6)
              try (case d1 => rfl)
              try (case d2 => rfl)
              try (case d3 => exact Blk.new _ _ _)
              try (case d4 => omega)
              try (case d5 => simp; omega)
              case d6 =>
                intro A7 c7 w7 own7 hg7 hat7
                have HOW7 := Lib.hid own7
                have HB7 := Lib.hid ((HB6.out.alloc hsz6 _).grown hg7 (by simp; omega) (fun b e => Nat.le_of_succ_le (HP6.out.lt b e).1))
                have HM7 := Lib.hid ((HM6.out.alloc (.cells #[.int .i64 y.kids[n]] 3)).grown hg7 (fun e => by have := (HP6.out.lt _ e.symm).1; omega))
                have HO7 := Lib.hid ((HO6.out.alloc (.cells #[.int .i64 y.kids[n]] 3)).kept hg7 HAP6.out)
                have HAP7 : Hid (Apart (.slice A3 (o2).length c3) (.slice A7 (L.length + 1) c7)) := Lib.hid (by
                  rcases hat7 with h7 | h7
                  · unfold Apart at *; rw [h7]; exact HAP6.out
                  · unfold Apart
                    cases hob : (Value.slice A3 (o2).length c3).ownBlock with
                    | none => exact .inl rfl
                    | some q => refine .inr (fun e => ?_); rw [h7] at e; have := (HO6.out.lt q hob).2; simp at e; omega)
                clear own7 hg7 hat7
                go_wp2
                go_roundg n
                case measure => have := HGN.out; omega
                case rel => exact ⟨n, _, rfl, rfl, rfl, by omega, HB7.out, HM7.out, HO7.out, by rw [HDR.out]; exact HOW7.out, HAP7.out⟩
end Go.Proofs.YtpkapommekkbcaaDoor
