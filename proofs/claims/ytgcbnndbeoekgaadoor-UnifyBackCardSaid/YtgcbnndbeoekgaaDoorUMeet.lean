/- unify's web.meet: two nodes meet, and all that meets by that -/
import Derived.Test.YtgcbnndbeoekgaaDoorMeetA
import Derived.Test.YtgcbnndbeoekgaaDoorRegY
import Derived.Deep.LoopGhost
import Derived.StillTailTactics
import Derived.Deep.DeepCutAuto
import Derived.IntWalk
set_option linter.unusedSimpArgs false
set_option linter.unusedVariables false
namespace Go.Proofs.YtgcbnndbeoekgaaDoor
open Go Go.RowKit Go.Maps

/-- what holds ahead of each pair -/
structure MeetI (w : World) (B p mb : Nat) (lv tv0 : Value) (hm : List (Nat × Nat)) (W : WebT) (E : List (Fo × Fo)) (r0 : Nat → Nat) (n a b : Nat) (wx : World) (tv : Value) (l : List PN) (td : List (Nat × Nat)) (r : Nat → Nat) (tm : Nat → Option Nat) (lo : Nat → Nat) : Prop where
  mem : MeetM w B p mb lv tv0 hm wx tv l td
  pw : PW W r tm lo l hm
  ust : USt W r tm lo td E
  rel : ∀ i j, Rel r0 [(a, b)] i j → Rel r td i j
  few : td.length + 256 * rootsN n r ≤ 256 * n + 1
  args : ∀ x ∈ l, NOk x
  len : l.length = n

set_option maxRecDepth 100000 in
set_option maxHeartbeats 16000000 in
theorem umeet_any (w : World) (B p mb : Nat) (lv tv0 : Value) (l0 : List PN) (hm td0 : List (Nat × Nat)) (W : WebT) (E : List (Fo × Fo)) (r0 : Nat → Nat) (tm0 : Nat → Option Nat) (lo0 : Nat → Nat) (a b : Nat) (hB : B ≤ w.heap.size) (hweb : WebAt w B p lv mb tv0 l0 hm td0) (hpw : PW W r0 tm0 lo0 l0 hm) (hust : USt W r0 tm0 lo0 [(a, b)] E) (hargs : ∀ x ∈ l0, NOk x) (hlen : l0.length ≤ 17179869184) :
    Calls Tryd.prog 35 #[.pointer (some ⟨p, 0, none⟩), .int .i64 a, .int .i64 b] w (SomeMeet w B p mb lv tv0 hm W E r0 l0.length a b) := by
  have hab := hust.todo (a, b) (by simp)
  have hal : a < l0.length := by rw [← hpw.len]; exact hab.1
  obtain ⟨g, c, rfl, -, -, hc1, hc2, -⟩ := hweb.nodes.at_ hal
  obtain ⟨n, hn⟩ : ∃ n, l0.length = n := ⟨_, rfl⟩
  have HI0 : Hid (∀ wx tv, MeetM w B p mb (.slice (some ⟨g, 0, none⟩) l0.length c) tv0 hm wx tv l0 [(a, b)] → MeetI w B p mb (.slice (some ⟨g, 0, none⟩) l0.length c) tv0 hm W E r0 l0.length a b wx tv l0 [(a, b)] r0 tm0 lo0) := Lib.hid (fun wx tv h => ⟨h, hpw, hust, fun _ _ h => h, by have := rootsN_le l0.length r0; simp; omega, hargs, rfl⟩)
  have HM0 : Hid (MeetM w B p mb (.slice (some ⟨g, 0, none⟩) l0.length c) tv0 hm w tv0 l0 td0) := Lib.hid (MeetM.start hweb)
  have HBB := Lib.hid hB
  unfold maxLen at hc2
  rw [hn] at HI0 HM0 hc1 hlen
  (try rw [hn])
  clear hweb hpw hust hargs hab hal hn hB
  go_enter Tryd.func35, Tryd.ntmps35
  go_upto_region 1 with fail
  go_cut [] (fun wx => ∃ tv, MeetM w B p mb (.slice (some ⟨g, 0, none⟩) n c) tv0 hm wx tv l0 [(a, b)])
  case first => as_aux_lemma =>
    have p2 := HM0.out.web.blk.cell 2
    simp at p2
    have hpl := HM0.out.web.blk.lt
    have HSZ : Hid (∀ A c', tv0 = .slice A td0.length c' → w.ownsRow B 98 2 (.slice A 0 c') 0 []) := Lib.hid (fun A c' e => by
      have h := HM0.out.web.todo
      subst e
      cases A with
      | none =>
        rcases h.2 with ⟨e, h0⟩ | ⟨_, _, _, e, _⟩
        · injection e with _ _ e; subst e; exact World.ownsRow_nil _ _ _ _
        · cases e
      | some ad =>
        rcases h.2 with ⟨e, h0⟩ | ⟨g', _, _, e, _⟩
        · cases e
        · injection e with e _ _
          injection e with e
          subst e
          have := own_prefix h (m := 0) (by omega)
          simpa using this)
    obtain ⟨A, c0, htv⟩ := own_shapeP HM0.out.web.todo
    have HS := Lib.hid (HSZ.out A c0 htv)
    rw [htv] at p2
    have HTV := Lib.hid htv
    have hcc : 0 ≤ c0 := by omega
    have hA : A = none ∨ ∃ g2, A = some ⟨g2, 0, none⟩ := by
      rcases HS.out.2 with ⟨e, _⟩ | ⟨g', _, _, e, _⟩
      · injection e with e _ _; exact .inl e
      · injection e with e _ _; exact .inr ⟨g', e⟩
    clear htv HSZ hcc
    rcases hA with rfl | ⟨g2, rfl⟩
    · go_wp2_with (at_builtin; refine wpList_append_from _ rfl (.tmp 19) (.tmp 23) 84 rfl B 98 Tryd.underlying84 pair_info15 rfl (by omega) (.slice none 0 c0) 0 [] rfl (HS.out.alloc _) (some ⟨w.heap.size, 0, none⟩) 1 1 [.int .i64 a, .int .i64 b] rfl rfl (by simp) (fun ad e => by cases e; exact news_cells (Blk.new w 98 #[.int .i64 a, .int .i64 b])) (by intro u hu; simp only [List.mem_cons, List.not_mem_nil, or_false] at hu; rcases hu with rfl | rfl <;> rfl) (by unfold maxLen; omega) (by omega) (by have := HBB.out; simp; omega) ?a5)
      case a5 =>
      intro A7 c7 w7 own7 hg7 hat7
      (try simp only [Nat.zero_add, List.nil_append] at own7)
      have hrow : ∀ b, ((.slice none 0 c0) : Value).ownBlock = some b → tv0.ownBlock = some b := fun b e => by
        have h := HTV.out
        subst h
        first | exact e | (simp [Value.ownBlock] at e)
      have HM7 : Hid (MeetM w B p mb (.slice (some ⟨g, 0, none⟩) n c) tv0 hm (w7.setCell ⟨p, 2, none⟩ (.slice A7 1 c7)) (.slice A7 1 c7) l0 [(a, b)]) := Lib.hid ((HM0.out.alloc (.cells #[.int .i64 a, .int .i64 b] 98)).todo (td' := [(a, b)]) hg7 hrow (by simpa [pairCells] using own7) (fun b e => by
        rcases hat7 with h | h
        · rw [h] at e; exact .inl (hrow b e)
        · rw [h] at e; injection e with e; subst e; exact .inr (by simp)))
      have HB7 : Hid (Blk w7 p 86 #[(.slice (some ⟨g, 0, none⟩) n c), .map (some mb), tv0]) := Lib.hid ((HM0.out.web.blk.alloc _).grown hg7 (fun e => own_ne_blkX HM0.out.web.todo HM0.out.web.blk (by decide) (hrow p e.symm)))
      clear own7 hg7 hat7 hrow p2 hpl
      have p2 := HB7.out.cell 2; have p2f := HB7.out.frozen 2
      simp at p2
      (try simp only [Nat.zero_add])
      go_wp2_with fail
      go_meet
      case rel => exact ⟨_, HM7.out⟩
    · go_wp2_with (at_builtin; refine wpList_append_from _ rfl (.tmp 19) (.tmp 23) 84 rfl B 98 Tryd.underlying84 pair_info15 rfl (by omega) (.slice (some ⟨g2, 0, none⟩) 0 c0) 0 [] rfl (HS.out.alloc _) (some ⟨w.heap.size, 0, none⟩) 1 1 [.int .i64 a, .int .i64 b] rfl rfl (by simp) (fun ad e => by cases e; exact news_cells (Blk.new w 98 #[.int .i64 a, .int .i64 b])) (by intro u hu; simp only [List.mem_cons, List.not_mem_nil, or_false] at hu; rcases hu with rfl | rfl <;> rfl) (by unfold maxLen; omega) (by omega) (by have := HBB.out; simp; omega) ?a5)
      case a5 =>
      intro A7 c7 w7 own7 hg7 hat7
      (try simp only [Nat.zero_add, List.nil_append] at own7)
      have hrow : ∀ b, ((.slice (some ⟨g2, 0, none⟩) 0 c0) : Value).ownBlock = some b → tv0.ownBlock = some b := fun b e => by
        have h := HTV.out
        subst h
        first | exact e | (simp [Value.ownBlock] at e)
      have HM7 : Hid (MeetM w B p mb (.slice (some ⟨g, 0, none⟩) n c) tv0 hm (w7.setCell ⟨p, 2, none⟩ (.slice A7 1 c7)) (.slice A7 1 c7) l0 [(a, b)]) := Lib.hid ((HM0.out.alloc (.cells #[.int .i64 a, .int .i64 b] 98)).todo (td' := [(a, b)]) hg7 hrow (by simpa [pairCells] using own7) (fun b e => by
        rcases hat7 with h | h
        · rw [h] at e; exact .inl (hrow b e)
        · rw [h] at e; injection e with e; subst e; exact .inr (by simp)))
      have HB7 : Hid (Blk w7 p 86 #[(.slice (some ⟨g, 0, none⟩) n c), .map (some mb), tv0]) := Lib.hid ((HM0.out.web.blk.alloc _).grown hg7 (fun e => own_ne_blkX HM0.out.web.todo HM0.out.web.blk (by decide) (hrow p e.symm)))
      clear own7 hg7 hat7 hrow p2 hpl
      have p2 := HB7.out.cell 2; have p2f := HB7.out.frozen 2
      simp at p2
      (try simp only [Nat.zero_add])
      go_wp2_with fail
      go_meet
      case rel => exact ⟨_, HM7.out⟩
  case rest =>
    obtain ⟨tv1, hM1⟩ := hcut
    have HI1 := Lib.hid (HI0.out _ _ hM1)
    clear hM1 HI0 HM0
    go_upto_region 2 with fail
    go_loopg [6] (257 * rootsN n r0 + 1) (fun gh s6 wx => ∃ (tv : Value) (l : List PN) (td : List (Nat × Nat)) (r : Nat → Nat) (tm : Nat → Option Nat) (lo : Nat → Nat), s6 = .bool false ∧ gh = 257 * rootsN n r + td.length ∧ MeetI w B p mb (.slice (some ⟨g, 0, none⟩) n c) tv0 hm W E r0 n a b wx tv l td r tm lo)
    case atStart => exact ⟨tv1, l0, [(a, b)], r0, tm0, lo0, rfl, rfl, HI1.out⟩
    case round =>
      clear HI1
      obtain ⟨tv, l, td, r, tm, lo, rfl, rfl, hI⟩ := hrel
      have HI := Lib.hid hI
      clear hI
      have p2 := HI.out.mem.web.blk.cell 2
      simp at p2
      rcases List.eq_nil_or_concat td with rfl | ⟨td1, ⟨a1, b1⟩, e⟩
      · obtain ⟨A2, c2, htv⟩ := own_shapeP HI.out.mem.web.todo
        rw [htv] at p2
        have HTV := Lib.hid htv
        simp only [List.length_nil] at p2
        clear htv
        go_wp2_with fail
        go_ret
        have hr := rel_none HI.out.rel
        exact .inl ⟨rfl, tv, l, r, tm, lo, HI.out.mem, HI.out.pw, HI.out.ust, hr.1, hr.2, HI.out.args⟩
      · rw [List.concat_eq_append] at e
        subst e
        have htl : (td1 ++ [(a1, b1)]).length = td1.length + 1 := by simp
        obtain ⟨m, hm1⟩ : ∃ m, td1.length = m := ⟨_, rfl⟩
        obtain ⟨M, hM1⟩ : ∃ M, (td1 ++ [(a1, b1)]).length = M := ⟨_, rfl⟩
        have hMm : M = m + 1 := by omega
        have HMT := Lib.hid hm1; have HTL := Lib.hid hM1
        have hfew := HI.out.few
        have hMb : M ≤ 4398046511105 := by rw [hM1] at hfew; omega
        obtain ⟨g2, c2, htv, hmc, hg2l, he0, he1⟩ : ∃ g2 c2, tv = .slice (some ⟨g2, 0, none⟩) M c2 ∧ m ≤ c2 ∧ g2 < wr.heap.size ∧ wr.cell? ⟨g2, m * 2, none⟩ = some (.int .i64 a1) ∧ wr.cell? ⟨g2, m * 2 + 1, none⟩ = some (.int .i64 b1) := by
          have h := HI.out.mem.web.todo
          obtain ⟨A2, c2, rfl⟩ := own_shapeP h
          have hlt := h.lt
          rcases h.2 with ⟨_, h0⟩ | ⟨g2, cap, cur, e, _, _, hcap, _⟩
          · omega
          · injection e with e1 _ e3
            subst e1; subst e3
            refine ⟨g2, c2, by rw [hM1], by omega, (hlt g2 rfl).2, ?_, ?_⟩
            · rw [World.ownsRow.cellAt h _ (by omega)]
              have := flat_at pairCells_len (td1 ++ [(a1, b1)]) m 0 (by omega) (by omega)
              rw [Nat.add_zero] at this
              rw [this]; subst hm1; simp [pairCells]
            · rw [World.ownsRow.cellAt h _ (by omega), flat_at pairCells_len (td1 ++ [(a1, b1)]) m 1 (by omega) (by omega)]
              subst hm1; simp [pairCells]
        have e0 := he0; have e1 := he1
        subst htv
        have HQB : Hid (p < wr.heap.size ∧ g2 < wr.heap.size) := Lib.hid ⟨HI.out.mem.web.blk.lt, hg2l⟩
        have HPW := Lib.hid HI.out.pw
        have HLN := Lib.hid HI.out.len
        have HAB : Hid (a1 < n ∧ b1 < n) := Lib.hid (by have h := HI.out.ust.todo (a1, b1) (by simp); have h2 := HI.out.pw.len; rw [HI.out.len] at h2; rw [h2] at h; exact ⟨h.1, h.2.1⟩)
        have HMm := Lib.hid hMm
        have hsub : IntKind.i64.wrap ((M : Int) - 1) = (m : Int) := by rw [IntWalk.i64_in _ (by omega)]; omega
        have m0 : (0 : Int) ≤ m := by omega
        have m1 : (m : Int) < M := by omega
        have m2 : (0 : Int) < M := by omega
        have HMC := Lib.hid hmc
        clear htl hm1 hM1 hMm hfew hg2l he0 he1 hmc
        go_upto_region 3 with fail
        refine wp_region_Y (S := (fun w' : World => w'.cell? ⟨p, 2, none⟩ = some (.slice (some ⟨g2, 0, none⟩) M c2) ∧ w'.cell? ⟨g2, m * 2, none⟩ = some (.int .i64 a1) ∧ w'.cell? ⟨g2, m * 2 + 1, none⟩ = some (.int .i64 b1))) 13 (by kernel_rfl) (⟨p2, e0, e1⟩) (fun hHeld => ?_)
        refine wpAnyY_take (i := 0) (v := ?_) rfl (by kernel_rfl) (by kernel_rfl) (by kernel_rfl) (by kernel_rfl) (fun _ _ _ h => h) (Or.inl ⟨by rfl, ?_⟩) (by assumption) ?_
        rotate_left 1
        · (intro w' hSw; obtain ⟨s0, s1, s2⟩ := hSw; go_simp); try with_reducible rfl
        try simp only [Act.put, List.setIfInBounds_toArray, List.set_cons_zero, List.set_cons_succ, Nat.zero_add]
        refine wpAnyY_take (i := 1) (v := ?_) rfl (by kernel_rfl) (by kernel_rfl) (by kernel_rfl) (by kernel_rfl) (fun _ _ _ h => h) (Or.inl ⟨by rfl, ?_⟩) (by assumption) ?_
        rotate_left 1
        · (intro w' hSw; obtain ⟨s0, s1, s2⟩ := hSw; go_simp); try with_reducible rfl
        try simp only [Act.put, List.setIfInBounds_toArray, List.set_cons_zero, List.set_cons_succ, Nat.zero_add]
        refine wpAnyY_take (i := 2) (v := ?_) rfl (by kernel_rfl) (by kernel_rfl) (by kernel_rfl) (by kernel_rfl) (fun _ _ _ h => h) (Or.inl ⟨by rfl, ?_⟩) (by assumption) ?_
        rotate_left 1
        · (intro w' hSw; obtain ⟨s0, s1, s2⟩ := hSw; go_simp); try with_reducible rfl
        try simp only [Act.put, List.setIfInBounds_toArray, List.set_cons_zero, List.set_cons_succ, Nat.zero_add]
        refine wpAnyY_take (i := 3) (v := ?_) rfl (by kernel_rfl) (by kernel_rfl) (by kernel_rfl) (by kernel_rfl) (fun _ _ _ h => h) (Or.inl ⟨by rfl, ?_⟩) (by assumption) ?_
        rotate_left 1
        · (intro w' hSw; obtain ⟨s0, s1, s2⟩ := hSw; go_simp); try with_reducible rfl
        try simp only [Act.put, List.setIfInBounds_toArray, List.set_cons_zero, List.set_cons_succ, Nat.zero_add]
        refine wpAnyY_take (i := 4) (v := ?_) rfl (by kernel_rfl) (by kernel_rfl) (by kernel_rfl) (by kernel_rfl) (fun _ _ _ h => h) (Or.inl ⟨by rfl, ?_⟩) (by assumption) ?_
        rotate_left 1
        · (intro w' hSw; obtain ⟨s0, s1, s2⟩ := hSw; go_simp); try with_reducible rfl
        try simp only [Act.put, List.setIfInBounds_toArray, List.set_cons_zero, List.set_cons_succ, Nat.zero_add]
        refine wpAnyY_take (i := 5) (v := ?_) rfl (by kernel_rfl) (by kernel_rfl) (by kernel_rfl) (by kernel_rfl) (fun _ _ _ h => h) (Or.inl ⟨by rfl, ?_⟩) (by assumption) ?_
        rotate_left 1
        · (intro w' hSw; obtain ⟨s0, s1, s2⟩ := hSw; go_simp); try with_reducible rfl
        try simp only [Act.put, List.setIfInBounds_toArray, List.set_cons_zero, List.set_cons_succ, Nat.zero_add]
        refine wpAnyY_take (i := 6) (v := ?_) rfl (by kernel_rfl) (by kernel_rfl) (by kernel_rfl) (by kernel_rfl) (fun _ _ _ h => h) (Or.inl ⟨by rfl, ?_⟩) (by assumption) ?_
        rotate_left 1
        · (intro w' hSw; obtain ⟨s0, s1, s2⟩ := hSw; go_simp); try with_reducible rfl
        try simp only [Act.put, List.setIfInBounds_toArray, List.set_cons_zero, List.set_cons_succ, Nat.zero_add]
        refine wpAnyY_take (i := 7) (v := ?_) rfl (by kernel_rfl) (by kernel_rfl) (by kernel_rfl) (by kernel_rfl) (fun _ _ _ h => h) (Or.inl ⟨by rfl, ?_⟩) (by assumption) ?_
        rotate_left 1
        · (intro w' hSw; obtain ⟨s0, s1, s2⟩ := hSw; go_simp); try with_reducible rfl
        try simp only [Act.put, List.setIfInBounds_toArray, List.set_cons_zero, List.set_cons_succ, Nat.zero_add]
        refine wpAnyY_take (i := 8) (v := ?_) rfl (by kernel_rfl) (by kernel_rfl) (by kernel_rfl) (by kernel_rfl) (fun _ _ _ h => h) (Or.inl ⟨by rfl, ?_⟩) (by assumption) ?_
        rotate_left 1
        · (intro w' hSw; obtain ⟨s0, s1, s2⟩ := hSw; go_simp); try with_reducible rfl
        try simp only [Act.put, List.setIfInBounds_toArray, List.set_cons_zero, List.set_cons_succ, Nat.zero_add]
        refine wpAnyY_take (i := 9) (v := ?_) rfl (by kernel_rfl) (by kernel_rfl) (by kernel_rfl) (by kernel_rfl) (fun _ _ _ h => h) (Or.inl ⟨by rfl, ?_⟩) (by assumption) ?_
        rotate_left 1
        · (intro w' hSw; obtain ⟨s0, s1, s2⟩ := hSw; go_simp); try with_reducible rfl
        try simp only [Act.put, List.setIfInBounds_toArray, List.set_cons_zero, List.set_cons_succ, Nat.zero_add]
        refine wpAnyY_take (i := 10) (v := ?_) rfl (by kernel_rfl) (by kernel_rfl) (by kernel_rfl) (by kernel_rfl) (fun _ _ _ h => h) (Or.inl ⟨by rfl, ?_⟩) (by assumption) ?_
        rotate_left 1
        · (intro w' hSw; obtain ⟨s0, s1, s2⟩ := hSw; go_simp); try with_reducible rfl
        try simp only [Act.put, List.setIfInBounds_toArray, List.set_cons_zero, List.set_cons_succ, Nat.zero_add]
        refine wpAnyY_take (i := 11) (v := ?_) rfl (by kernel_rfl) (by kernel_rfl) (by kernel_rfl) (by kernel_rfl) (fun _ _ _ h => h) (Or.inl ⟨by rfl, ?_⟩) (by assumption) ?_
        rotate_left 1
        · (intro w' hSw; obtain ⟨s0, s1, s2⟩ := hSw; go_simp); try with_reducible rfl
        try simp only [Act.put, List.setIfInBounds_toArray, List.set_cons_zero, List.set_cons_succ, Nat.zero_add]
        refine wpAnyY_one (i := 12) rfl (by kernel_rfl) (fun K hK => ?_)
        go_simp
        refine hK.out _ _ (fun _ => ⟨?_, ?_, ?_⟩) ?_
        · exact (cell_alloc HQB.out.1 _ _).trans p2
        · exact (cell_alloc HQB.out.2 _ _).trans e0
        · exact (cell_alloc HQB.out.2 _ _).trans e1
        clear hK K
        try simp only [Act.put, List.setIfInBounds_toArray, List.set_cons_zero, List.set_cons_succ, Nat.zero_add]
        refine wpAnyY_one0 (i := 13) rfl (by kernel_rfl) (by kernel_rfl) (fun K hK => ?_)
        go_simp
        refine hK.out _ _ ?_
        clear hK K
        try simp only [Act.put, List.setIfInBounds_toArray, List.set_cons_zero, List.set_cons_succ, Nat.zero_add]
        refine wpAnyY_done (by kernel_rfl) ?_ _
        clear e0 e1 HQB
        obtain ⟨q7, hq7⟩ : ∃ q, wr.heap.size = q := ⟨_, rfl⟩
        obtain ⟨u1, hu1⟩ : ∃ q : World, (wr.alloc (.cells #[.int .i64 a1, .int .i64 b1] 98)).drew = q := ⟨_, rfl⟩
        have HM1 : Hid (MeetM w B p mb (.slice (some ⟨g, 0, none⟩) n c) tv0 hm u1 (.slice (some ⟨g2, 0, none⟩) M c2) l (td1 ++ [(a1, b1)])) := Lib.hid (by rw [← hu1]; exact (HI.out.mem.alloc _).drew)
        have HX1 : Hid (Blk u1 q7 98 #[.int .i64 a1, .int .i64 b1]) := Lib.hid (by rw [← hu1]; exact (Blk.new' hq7.symm).drew)
        have HQ7 : Hid (p ≠ q7) := Lib.hid (fun e => by have := HI.out.mem.web.blk.lt; omega)
        try rw [hu1]
        try rw [hq7]
        clear hu1 hq7 p2
        have p2 := HM1.out.web.blk.cell 2; have p2f := HM1.out.web.blk.frozen 2
        simp at p2
        have hmc := HMC.out
        go_upto_region 4 with fail
        refine wp_region_Y (S := (fun w' : World => w'.cell? ⟨p, 2, none⟩ = some (.slice (some ⟨g2, 0, none⟩) M c2))) 14 (by kernel_rfl) (p2) (fun hHeld => ?_)
        refine wpAnyY_take (i := 0) (v := ?_) rfl (by kernel_rfl) (by kernel_rfl) (by kernel_rfl) (by kernel_rfl) (fun _ _ _ h => h) (Or.inl ⟨by rfl, ?_⟩) (by assumption) ?_
        rotate_left 1
        · (intro w' hSw; have s0 := hSw; go_simp); try with_reducible rfl
        try simp only [Act.put, List.setIfInBounds_toArray, List.set_cons_zero, List.set_cons_succ, Nat.zero_add]
        refine wpAnyY_take (i := 1) (v := ?_) rfl (by kernel_rfl) (by kernel_rfl) (by kernel_rfl) (by kernel_rfl) (fun _ _ _ h => h) (Or.inl ⟨by rfl, ?_⟩) (by assumption) ?_
        rotate_left 1
        · (intro w' hSw; have s0 := hSw; go_simp); try with_reducible rfl
        try simp only [Act.put, List.setIfInBounds_toArray, List.set_cons_zero, List.set_cons_succ, Nat.zero_add]
        refine wpAnyY_take (i := 2) (v := ?_) rfl (by kernel_rfl) (by kernel_rfl) (by kernel_rfl) (by kernel_rfl) (fun _ _ _ h => h) (Or.inl ⟨by rfl, ?_⟩) (by assumption) ?_
        rotate_left 1
        · (intro w' hSw; have s0 := hSw; go_simp); try with_reducible rfl
        try simp only [Act.put, List.setIfInBounds_toArray, List.set_cons_zero, List.set_cons_succ, Nat.zero_add]
        refine wpAnyY_take (i := 3) (v := ?_) rfl (by kernel_rfl) (by kernel_rfl) (by kernel_rfl) (by kernel_rfl) (fun _ _ _ h => h) (Or.inl ⟨by rfl, ?_⟩) (by assumption) ?_
        rotate_left 1
        · (intro w' hSw; have s0 := hSw; go_simp); try with_reducible rfl
        try simp only [Act.put, List.setIfInBounds_toArray, List.set_cons_zero, List.set_cons_succ, Nat.zero_add]
        refine wpAnyY_take (i := 4) (v := ?_) rfl (by kernel_rfl) (by kernel_rfl) (by kernel_rfl) (by kernel_rfl) (fun _ _ _ h => h) (Or.inl ⟨by rfl, ?_⟩) (by assumption) ?_
        rotate_left 1
        · (intro w' hSw; have s0 := hSw; go_simp); try with_reducible rfl
        try simp only [Act.put, List.setIfInBounds_toArray, List.set_cons_zero, List.set_cons_succ, Nat.zero_add]
        refine wpAnyY_take (i := 5) (v := ?_) rfl (by kernel_rfl) (by kernel_rfl) (by kernel_rfl) (by kernel_rfl) (fun _ _ _ h => h) (Or.inl ⟨by rfl, ?_⟩) (by assumption) ?_
        rotate_left 1
        · (intro w' hSw; have s0 := hSw; go_simp); try with_reducible rfl
        try simp only [Act.put, List.setIfInBounds_toArray, List.set_cons_zero, List.set_cons_succ, Nat.zero_add]
        refine wpAnyY_take (i := 6) (v := ?_) rfl (by kernel_rfl) (by kernel_rfl) (by kernel_rfl) (by kernel_rfl) (fun _ _ _ h => h) (Or.inl ⟨by rfl, ?_⟩) (by assumption) ?_
        rotate_left 1
        · (intro w' hSw; have s0 := hSw; go_simp); try with_reducible rfl
        try simp only [Act.put, List.setIfInBounds_toArray, List.set_cons_zero, List.set_cons_succ, Nat.zero_add]
        refine wpAnyY_take (i := 7) (v := ?_) rfl (by kernel_rfl) (by kernel_rfl) (by kernel_rfl) (by kernel_rfl) (fun _ _ _ h => h) (Or.inl ⟨by rfl, ?_⟩) (by assumption) ?_
        rotate_left 1
        · (intro w' hSw; have s0 := hSw; go_simp); try with_reducible rfl
        try simp only [Act.put, List.setIfInBounds_toArray, List.set_cons_zero, List.set_cons_succ, Nat.zero_add]
        refine wpAnyY_take (i := 8) (v := ?_) rfl (by kernel_rfl) (by kernel_rfl) (by kernel_rfl) (by kernel_rfl) (fun _ _ _ h => h) (Or.inl ⟨by rfl, ?_⟩) (by assumption) ?_
        rotate_left 1
        · (intro w' hSw; have s0 := hSw; go_simp); try with_reducible rfl
        try simp only [Act.put, List.setIfInBounds_toArray, List.set_cons_zero, List.set_cons_succ, Nat.zero_add]
        refine wpAnyY_take (i := 9) (v := ?_) rfl (by kernel_rfl) (by kernel_rfl) (by kernel_rfl) (by kernel_rfl) (fun _ _ _ h => h) (Or.inl ⟨by rfl, ?_⟩) (by assumption) ?_
        rotate_left 1
        · (intro w' hSw; have s0 := hSw; go_simp); try with_reducible rfl
        try simp only [Act.put, List.setIfInBounds_toArray, List.set_cons_zero, List.set_cons_succ, Nat.zero_add]
        refine wpAnyY_take (i := 10) (v := ?_) rfl (by kernel_rfl) (by kernel_rfl) (by kernel_rfl) (by kernel_rfl) (fun _ _ _ h => h) (Or.inl ⟨by rfl, ?_⟩) (by assumption) ?_
        rotate_left 1
        · (intro w' hSw; have s0 := hSw; go_simp); try with_reducible rfl
        try simp only [Act.put, List.setIfInBounds_toArray, List.set_cons_zero, List.set_cons_succ, Nat.zero_add]
        refine wpAnyY_take (i := 11) (v := ?_) rfl (by kernel_rfl) (by kernel_rfl) (by kernel_rfl) (by kernel_rfl) (fun _ _ _ h => h) (Or.inl ⟨by rfl, ?_⟩) (by assumption) ?_
        rotate_left 1
        · (intro w' hSw; have s0 := hSw; go_simp); try with_reducible rfl
        try simp only [Act.put, List.setIfInBounds_toArray, List.set_cons_zero, List.set_cons_succ, Nat.zero_add]
        refine wpAnyY_take0 (i := 12) (v := ?_) rfl (by kernel_rfl) (by kernel_rfl) (by kernel_rfl) (by kernel_rfl) (fun _ _ _ h => h) (Or.inl ⟨by rfl, ?_⟩) ?_
        rotate_left 1
        · (intro w' _; go_simp); try with_reducible rfl
        try simp only [Act.put, List.setIfInBounds_toArray, List.set_cons_zero, List.set_cons_succ, Nat.zero_add]
        refine wpAnyY_take (i := 13) (v := ?_) rfl (by kernel_rfl) (by kernel_rfl) (by kernel_rfl) (by kernel_rfl) (fun _ _ _ h => h) (Or.inl ⟨by rfl, ?_⟩) (by assumption) ?_
        rotate_left 1
        · (intro w' hSw; have s0 := hSw; go_simp); try with_reducible rfl
        try simp only [Act.put, List.setIfInBounds_toArray, List.set_cons_zero, List.set_cons_succ, Nat.zero_add]
        refine wpAnyY_one0 (i := 14) rfl (by kernel_rfl) (by kernel_rfl) (fun K hK => ?_)
        go_simp
        refine hK.out _ _ ?_
        clear hK K
        try simp only [Act.put, List.setIfInBounds_toArray, List.set_cons_zero, List.set_cons_succ, Nat.zero_add]
        refine wpAnyY_done (by kernel_rfl) ?_ _
        clear p2 p2f hsub
        obtain ⟨u2, hu2⟩ : ∃ q : World, (u1.setCell ⟨p, 2, none⟩ (.slice (some ⟨g2, 0, none⟩) m c2)).drew = q := ⟨_, rfl⟩
        have HM2 : Hid (MeetM w B p mb (.slice (some ⟨g, 0, none⟩) n c) tv0 hm u2 (.slice (some ⟨g2, 0, none⟩) m c2) l td1) := Lib.hid (by
          rw [← hu2]
          refine MeetM.drew (HM1.out.todo (World.grownBy.refl u1 none) (fun b e => by cases e) ?_ (fun b e => .inl e))
          have h0 := HM1.out.web.todo
          rw [HTL.out] at h0
          have h := own_prefix h0 (m := m) (by have := HMm.out; omega)
          rw [pairs_take, List.take_append_of_le_length (by rw [HMT.out]; omega), List.take_of_length_le (by rw [HMT.out]; omega)] at h
          rw [HMT.out]
          exact h)
        have HX2 : Hid (Blk u2 q7 98 #[.int .i64 a1, .int .i64 b1]) := Lib.hid (by rw [← hu2]; exact (HX1.out.far (p := ⟨p, 2, none⟩) (Ne.symm HQ7.out) _).drew)
        try rw [hu2]
        clear hu2 HM1 HX1
        have x0 := HX2.out.cell 0; have x1 := HX2.out.cell 1
        simp at x0 x1
        go_upto_region 5 with fail
        refine wp_region_Y (S := (fun w' : World => w'.cell? ⟨q7, 0, none⟩ = some (.int .i64 a1) ∧ w'.cell? ⟨q7, 1, none⟩ = some (.int .i64 b1))) 9 (by kernel_rfl) (⟨x0, x1⟩) (fun hHeld => ?_)
        refine wpAnyY_take (i := 0) (v := ?_) rfl (by kernel_rfl) (by kernel_rfl) (by kernel_rfl) (by kernel_rfl) (fun _ _ _ h => h) (Or.inl ⟨by rfl, ?_⟩) (by assumption) ?_
        rotate_left 1
        · (intro w' hSw; obtain ⟨s0, s1⟩ := hSw; go_simp); try with_reducible rfl
        try simp only [Act.put, List.setIfInBounds_toArray, List.set_cons_zero, List.set_cons_succ, Nat.zero_add]
        refine wpAnyY_take (i := 1) (v := ?_) rfl (by kernel_rfl) (by kernel_rfl) (by kernel_rfl) (by kernel_rfl) (fun _ _ _ h => h) (Or.inl ⟨by rfl, ?_⟩) (by assumption) ?_
        rotate_left 1
        · (intro w' hSw; obtain ⟨s0, s1⟩ := hSw; go_simp); try with_reducible rfl
        try simp only [Act.put, List.setIfInBounds_toArray, List.set_cons_zero, List.set_cons_succ, Nat.zero_add]
        refine wpAnyY_take (i := 2) (v := ?_) rfl (by kernel_rfl) (by kernel_rfl) (by kernel_rfl) (by kernel_rfl) (fun _ _ _ h => h) (Or.inl ⟨by rfl, ?_⟩) (by assumption) ?_
        rotate_left 1
        · (intro w' hSw; obtain ⟨s0, s1⟩ := hSw; go_simp); try with_reducible rfl
        try simp only [Act.put, List.setIfInBounds_toArray, List.set_cons_zero, List.set_cons_succ, Nat.zero_add]
        refine wpAnyY_take (i := 4) (v := ?_) rfl (by kernel_rfl) (by kernel_rfl) (by kernel_rfl) (by kernel_rfl) (fun _ _ _ h => h) (Or.inl ⟨by rfl, ?_⟩) (by assumption) ?_
        rotate_left 1
        · (intro w' hSw; obtain ⟨s0, s1⟩ := hSw; go_simp); try with_reducible rfl
        try simp only [Act.put, List.setIfInBounds_toArray, List.set_cons_zero, List.set_cons_succ, Nat.zero_add]
        refine wpAnyY_take (i := 5) (v := ?_) rfl (by kernel_rfl) (by kernel_rfl) (by kernel_rfl) (by kernel_rfl) (fun _ _ _ h => h) (Or.inl ⟨by rfl, ?_⟩) (by assumption) ?_
        rotate_left 1
        · (intro w' hSw; obtain ⟨s0, s1⟩ := hSw; go_simp); try with_reducible rfl
        try simp only [Act.put, List.setIfInBounds_toArray, List.set_cons_zero, List.set_cons_succ, Nat.zero_add]
        refine wpAnyY_take (i := 6) (v := ?_) rfl (by kernel_rfl) (by kernel_rfl) (by kernel_rfl) (by kernel_rfl) (fun _ _ _ h => h) (Or.inl ⟨by rfl, ?_⟩) (by assumption) ?_
        rotate_left 1
        · (intro w' hSw; obtain ⟨s0, s1⟩ := hSw; go_simp); try with_reducible rfl
        try simp only [Act.put, List.setIfInBounds_toArray, List.set_cons_zero, List.set_cons_succ, Nat.zero_add]
        refine wpAnyY_one (i := 3) rfl (by kernel_rfl) (fun K hK => ?_)
        go_simp
        refine (find_web HM2.out.drew.web HPW.out (by rw [HLN.out]; omega) a1 (by rw [HLN.out]; exact HAB.out.1)).mono ?_
        rintro _ w3 ⟨rfl, l3, hg3, hw3, hu3, hp3⟩
        have HM3 : Hid (MeetM w B p mb (.slice (some ⟨g, 0, none⟩) n c) tv0 hm w3 (.slice (some ⟨g2, 0, none⟩) m c2) l3 td1) := Lib.hid (HM2.out.drew.found hg3 hw3)
        have HX3 : Hid (Blk w3 q7 98 #[.int .i64 a1, .int .i64 b1]) := Lib.hid (HX2.out.drew.grown hg3 (fun e => own_ne_blkX HM2.out.web.nodes.row HX2.out (by decide) e.symm))
        have HPW3 := Lib.hid hp3; have HU3 := Lib.hid hu3
        have HLN3 : Hid (l3.length = n) := Lib.hid (hu3.1.trans HLN.out)
        clear hg3 hw3 hu3 hp3 HM2 HX2 hHeld
        have x0 := HX3.out.cell 0; have x1 := HX3.out.cell 1
        simp at x0 x1
        have hH3 : (fun w' : World => w'.cell? ⟨q7, 0, none⟩ = some (.int .i64 a1) ∧ w'.cell? ⟨q7, 1, none⟩ = some (.int .i64 b1)) w3 := ⟨x0, x1⟩
        refine hK.out _ _ (fun _ => hH3) ?_
        clear hK K
        try simp only [Act.put, List.setIfInBounds_toArray, List.set_cons_zero, List.set_cons_succ, Nat.zero_add]
        refine wpAnyY_one (i := 7) rfl (by kernel_rfl) (fun K hK => ?_)
        go_simp
        refine (find_web HM3.out.web HPW3.out (by rw [HLN3.out]; omega) b1 (by rw [HLN3.out]; exact HAB.out.2)).mono ?_
        rintro _ w4 ⟨rfl, l4, hg4, hw4, hu4, hp4⟩
        have HM4 : Hid (MeetM w B p mb (.slice (some ⟨g, 0, none⟩) n c) tv0 hm w4 (.slice (some ⟨g2, 0, none⟩) m c2) l4 td1) := Lib.hid (HM3.out.found hg4 hw4)
        have HX4 : Hid (Blk w4 q7 98 #[.int .i64 a1, .int .i64 b1]) := Lib.hid (HX3.out.grown hg4 (fun e => own_ne_blkX HM3.out.web.nodes.row HX3.out (by decide) e.symm))
        have HPW4 := Lib.hid hp4
        have HS4 : Hid (Ups l l4) := Lib.hid (HU3.out.trans hu4)
        have HLN4 : Hid (l4.length = n) := Lib.hid (hu4.1.trans HLN3.out)
        clear hg4 hw4 hu4 hp4 HM3 HX3 hH3 x0 x1
        have x0 := HX4.out.cell 0; have x1 := HX4.out.cell 1
        simp at x0 x1
        have hH4 : (fun w' : World => w'.cell? ⟨q7, 0, none⟩ = some (.int .i64 a1) ∧ w'.cell? ⟨q7, 1, none⟩ = some (.int .i64 b1)) w4 := ⟨x0, x1⟩
        refine hK.out _ _ (fun _ => hH4) ?_
        clear hK K
        try simp only [Act.put, List.setIfInBounds_toArray, List.set_cons_zero, List.set_cons_succ, Nat.zero_add]
        refine wpAnyY_take (i := 8) (v := ?_) rfl (by kernel_rfl) (by kernel_rfl) (by kernel_rfl) (by kernel_rfl) (fun _ _ _ h => h) (Or.inl ⟨by rfl, ?_⟩) (by assumption) ?_
        rotate_left 1
        · (intro w' hSw; obtain ⟨s0, s1⟩ := hSw; go_simp); try with_reducible rfl
        try simp only [Act.put, List.setIfInBounds_toArray, List.set_cons_zero, List.set_cons_succ, Nat.zero_add]
        refine wpAnyY_one0 (i := 9) rfl (by kernel_rfl) (by kernel_rfl) (fun K hK => ?_)
        go_simp
        refine hK.out _ _ ?_
        clear hK K
        try simp only [Act.put, List.setIfInBounds_toArray, List.set_cons_zero, List.set_cons_succ, Nat.zero_add]
        refine wpAnyY_done (by kernel_rfl) ?_ _
        clear hH4 x0 x1 HX4
        obtain ⟨x, hx⟩ : ∃ x, r a1 = x := ⟨_, rfl⟩
        obtain ⟨y, hy⟩ : ∃ y, r b1 = y := ⟨_, rfl⟩
        have HRX := Lib.hid hx; have HRY := Lib.hid hy
        (try rw [hx])
        (try rw [hy])
        have HXY : Hid (x < n ∧ y < n) := Lib.hid (by
          obtain ⟨d, hd⟩ := HPW4.out.uf
          rw [HLN4.out] at hd
          rw [← hx, ← hy]; exact ⟨hd.rlt _ HAB.out.1, hd.rlt _ HAB.out.2⟩)
        have HRR : Hid (r x = x ∧ r y = y) := Lib.hid (by
          obtain ⟨d, hd⟩ := HPW4.out.uf
          rw [HLN4.out] at hd
          rw [← hx, ← hy]; exact ⟨hd.idem HAB.out.1, hd.idem HAB.out.2⟩)
        clear hx hy
        by_cases hxy : x = y
        · subst hxy
          have HE : Hid (r a1 = r b1) := Lib.hid (by rw [HRX.out, HRY.out])
          go_wp2_with fail
          go_roundg (257 * rootsN n r + td1.length)
          case measure => simp
          case rel => exact ⟨_, l4, td1, r, tm, lo, rfl, rfl, HM4.out, HPW4.out, HI.out.ust.skip HE.out, fun i j h => rel_skip HE.out (HI.out.rel i j h), by have := HI.out.few; simp at this; omega, nok_ups HS4.out HI.out.args, HLN4.out⟩
        · have hne : ((x : Int) == y) = false := beq_eq_false_iff_ne.2 (by omega)
          have HXY2 : Hid (x ≠ y) := Lib.hid hxy
          have h1x : x < l4.length := by rw [HLN4.out]; exact HXY.out.1
          have h1y : y < l4.length := by rw [HLN4.out]; exact HXY.out.2
          have HTXY : Hid (∃ h : x < l4.length, l4[x].term = tmV (tm x) ∧ l4[x].low = lo x) := Lib.hid ⟨h1x, HPW4.out.term x h1x HRR.out.1, HPW4.out.low x h1x HRR.out.1⟩
          have HTYY : Hid (∃ h : y < l4.length, l4[y].term = tmV (tm y) ∧ l4[y].low = lo y) := Lib.hid ⟨h1y, HPW4.out.term y h1y HRR.out.2, HPW4.out.low y h1y HRR.out.2⟩
          have p0 := HM4.out.web.blk.cell 0
          have cx5 := (HM4.out.web.nodes.rd h1x (k := 5) (by omega)).1
          have cy5 := (HM4.out.web.nodes.rd h1y (k := 5) (by omega)).1
          obtain ⟨sI, hsI⟩ : ∃ q, l4[x].term = q := ⟨_, rfl⟩
          obtain ⟨tI, htI⟩ : ∃ q, l4[y].term = q := ⟨_, rfl⟩
          obtain ⟨lx, hlx⟩ : ∃ q, lo x = q := ⟨_, rfl⟩
          obtain ⟨ly, hly⟩ : ∃ q, lo y = q := ⟨_, rfl⟩
          have HL0X := Lib.hid hlx; have HL0Y := Lib.hid hly
          have HLOX : Hid (l4[x].low = lx) := Lib.hid (by rw [← hlx]; exact HTXY.out.2.2)
          have HLOY : Hid (l4[y].low = ly) := Lib.hid (by rw [← hly]; exact HTYY.out.2.2)
          have HTE : Hid (l4[x].term = sI) := Lib.hid hsI
          have HSE : Hid (tmV (tm x) = sI) := Lib.hid (by rw [← hsI]; exact HTXY.out.2.1.symm)
          have HTYE : Hid (tmV (tm y) = tI) := Lib.hid (by rw [← htI]; exact HTYY.out.2.1.symm)
          simp only [PN.cells, List.getElem?_cons_succ, List.getElem?_cons_zero] at cx5 cy5
          rw [hsI] at cx5
          rw [htI] at cy5
          simp at p0
          have hnx : (x : Int) < n := by have := HXY.out.1; omega
          have hny : (y : Int) < n := by have := HXY.out.2; omega
          have x0 : (0 : Int) ≤ x := by omega
          have y0 : (0 : Int) ≤ y := by omega
          clear hxy hsI htI hlx hly HTXY HTYY
          go_upto_region 7 with fail
          go_quiet (fail)
          clear cx5 cy5 p0
          obtain ⟨w5, hw5⟩ : ∃ q, w4.drewN nq = q := ⟨_, rfl⟩
          have HM5 : Hid (MeetM w B p mb (.slice (some ⟨g, 0, none⟩) n c) tv0 hm w5 (.slice (some ⟨g2, 0, none⟩) m c2) l4 td1) := Lib.hid (by rw [← hw5]; exact HM4.out.drewN nq)
          try rw [hw5]
          clear hw5 HM4 hne
          cases hTX : tm x with
          | some s =>
            cases hTY : tm y with
            | some t =>
              have hs := hTX; have ht := hTY
              have hsI2 : sI = (s : Int) := by rw [← HSE.out, hs]; rfl
              have htI2 : tI = (t : Int) := by rw [← HTYE.out, ht]; rfl
              subst hsI2; subst htI2
              have hWn : W.n = n := by rw [HPW4.out.len]; exact HLN4.out
              obtain ⟨hs1, -, nm, ks, hs3⟩ := HI.out.ust.some_ a1 s (by rw [hWn]; exact HAB.out.1) (by rw [HRX.out]; exact hs)
              obtain ⟨ht1, -, nm', ks', ht3⟩ := HI.out.ust.some_ b1 t (by rw [hWn]; exact HAB.out.2) (by rw [HRY.out]; exact ht)
              rw [hWn] at hs1 ht1
              have hsl : s < l4.length := by rw [HLN4.out]; exact hs1
              have htl : t < l4.length := by rw [HLN4.out]; exact ht1
              obtain ⟨es1, es2, es3⟩ := HPW4.out.of_app hsl hs3
              obtain ⟨et1, et2, et3⟩ := HPW4.out.of_app htl ht3
              have HKS : Hid (ks.length ≤ 256) := Lib.hid (by rw [← es2]; exact (nok_ups HS4.out HI.out.args _ (List.getElem_mem hsl)).1)
              have HS3 := Lib.hid hs3; have HT3 := Lib.hid ht3
              have HSA := Lib.hid hs; have HTA := Lib.hid ht
              have p0 := HM5.out.web.blk.cell 0
              have s1 := (HM5.out.web.nodes.rd hsl (k := 1) (by omega)).1
              have s2 := (HM5.out.web.nodes.rd hsl (k := 2) (by omega)).1
              have t1 := (HM5.out.web.nodes.rd htl (k := 1) (by omega)).1
              have t2 := (HM5.out.web.nodes.rd htl (k := 2) (by omega)).1
              simp only [PN.cells, List.getElem?_cons_succ, List.getElem?_cons_zero, es1, es3] at s1 s2
              simp only [PN.cells, List.getElem?_cons_succ, List.getElem?_cons_zero, et1, et3] at t1 t2
              simp at p0
              obtain ⟨As, cs, esv, esa⟩ := HM5.out.web.nodes.arg hsl
              obtain ⟨At, ct, etv, eta⟩ := HM5.out.web.nodes.arg htl
              have HAVS : Hid (l4[s].av = .slice As ks.length cs ∧ l4[s].args = ks) := Lib.hid ⟨by rw [esv, es2], es2⟩
              have HAVT : Hid (l4[t].av = .slice At ks'.length ct ∧ l4[t].args = ks') := Lib.hid ⟨by rw [etv, et2], et2⟩
              have HESA := Lib.hid esa; have HETA := Lib.hid eta
              have hs0 : (0 : Int) ≤ s := by omega
              have ht0 : (0 : Int) ≤ t := by omega
              have hsn : (s : Int) < n := by omega
              have htn : (t : Int) < n := by omega
              have HSL0 : Hid (s < l4.length) := Lib.hid hsl
              have HTL0 : Hid (t < l4.length) := Lib.hid htl
              clear hs ht hs3 ht3 es1 es2 es3 et1 et2 et3 esv esa etv eta hWn hs1 ht1 hTX hTY
              by_cases hh : nm = nm' ∧ ks.length = ks'.length
              case neg =>
                have HCL : Hid (Comes E .clash) := Lib.hid (HI.out.ust.clash HRX.out HRY.out HSA.out HTA.out HS3.out HT3.out (by
                  by_cases e : nm = nm'
                  · exact .inr (fun e2 => hh ⟨e, e2⟩)
                  · exact .inl e))
                have hng : ∀ w, Sem.run Tryd.prog (Go.binOp .neq 101 (.agg #[.string nm, .int .i64 ks.length]) (.agg #[.string nm', .int .i64 ks'.length])) w = .ok (.bool true) w := fun w => by rw [neq_head, headB_no hh]; rfl
                have hgd := guard_head
                clear hh
                go_upto_region 9 with fail
                go_quiet (fail)
                go_wp2_with fail
                go_ret
                exact .inr ⟨rfl, HCL.out, HM5.out.kb.drewN _⟩
              case pos =>
                have hng : ∀ w, Sem.run Tryd.prog (Go.binOp .neq 101 (.agg #[.string nm, .int .i64 ks.length]) (.agg #[.string nm', .int .i64 ks'.length])) w = .ok (.bool false) w := fun w => by rw [neq_head, headB_yes hh]; rfl
                have hgd := guard_head
                have HHH := Lib.hid hh
                clear hh
                go_upto_region 9 with fail
                go_quiet (fail)
                clear hng hgd s1 s2 t1 t2 p0
                obtain ⟨w6, hw6⟩ : ∃ q, w5.drewN nq = q := ⟨_, rfl⟩
                have HM6 : Hid (MeetM w B p mb (.slice (some ⟨g, 0, none⟩) n c) tv0 hm w6 (.slice (some ⟨g2, 0, none⟩) m c2) l4 td1) := Lib.hid (by rw [← hw6]; exact HM5.out.drewN nq)
                try rw [hw6]
                clear hw6 HM5
                obtain ⟨q, hq⟩ : ∃ q, ks.length = q := ⟨_, rfl⟩
                have HQ := Lib.hid hq
                have hq256 : q ≤ 256 := by rw [← hq]; exact HKS.out
                have hql : (l4[s]'HSL0.out).args.length = q := by rw [HAVS.out.2]; exact hq
                have s3 := (HM6.out.web.nodes.rd HSL0.out (k := 3) (by omega)).1
                have p0 := HM6.out.web.blk.cell 0
                simp only [PN.cells, List.getElem?_cons_succ, List.getElem?_cons_zero, HAVS.out.1, hq] at s3
                simp at p0
                clear hq hql
                go_upto_region 12 with fail
                clear s3 p0
                go_loopg [118] q (fun gh s118 wx => ∃ (k : Nat) (tv' : Value), s118 = .int .i64 k ∧ gh = q - k ∧ k ≤ q ∧ MeetM w B p mb (.slice (some ⟨g, 0, none⟩) n c) tv0 hm wx tv' l4 (td1 ++ (argP ks ks').take k))
                case atStart => exact ⟨0, _, rfl, rfl, Nat.zero_le _, by simpa using HM6.out⟩
                case round =>
                  clear HM6
                  obtain ⟨k, tv', rfl, rfl, hk, hMk⟩ := hrel
                  have HK := Lib.hid hMk
                  have k0 : (0 : Int) ≤ k := by omega
                  clear hMk
                  by_cases hkq : k < q
                  · have hkq' : (k : Int) < q := by omega
                    have hk1 : k < ks.length := by rw [HQ.out]; exact hkq
                    have hk2 : k < ks'.length := by rw [← HHH.out.2, HQ.out]; exact hkq
                    obtain ⟨gs, egs, -⟩ := HESA.out k (by rw [HAVS.out.2]; exact hk1)
                    obtain ⟨gt, egt, -⟩ := HETA.out k (by rw [HAVT.out.2]; exact hk2)
                    subst egs; subst egt
                    have HSL : Hid (∃ h : s < l4.length, l4[s].av = .slice (some ⟨gs, 0, none⟩) q cs) := Lib.hid ⟨HSL0.out, by rw [HAVS.out.1, HQ.out]⟩
                    have HTL2 : Hid (∃ h : t < l4.length, l4[t].av = .slice (some ⟨gt, 0, none⟩) q ct) := Lib.hid ⟨HTL0.out, by rw [HAVT.out.1, ← HHH.out.2, HQ.out]⟩
                    obtain ⟨u, hu⟩ : ∃ u, ks[k] = u := ⟨_, rfl⟩
                    obtain ⟨v, hv⟩ : ∃ v, ks'[k] = v := ⟨_, rfl⟩
                    have HARG : Hid ((∀ w', NodesM w' B (.slice (some ⟨g, 0, none⟩) n c) l4 → w'.cell? ⟨gs, k, none⟩ = some (.int .i64 u)) ∧ (∀ w', NodesM w' B (.slice (some ⟨g, 0, none⟩) n c) l4 → w'.cell? ⟨gt, k, none⟩ = some (.int .i64 v))) := Lib.hid ⟨fun w' h => by
                      obtain ⟨A, c, e, f⟩ := h.arg HSL0.out
                      obtain ⟨g', e2, e3⟩ := f k (by rw [HAVS.out.2]; exact hk1)
                      rw [HAVS.out.1] at e
                      injection e with e _ _
                      rw [e2] at e
                      injection e with e
                      injection e with e
                      subst e
                      rw [e3]
                      simp only [HAVS.out.2, hu], fun w' h => by
                      obtain ⟨A, c, e, f⟩ := h.arg HTL0.out
                      obtain ⟨g', e2, e3⟩ := f k (by rw [HAVT.out.2]; exact hk2)
                      rw [HAVT.out.1] at e
                      injection e with e _ _
                      rw [e2] at e
                      injection e with e
                      injection e with e
                      subst e
                      rw [e3]
                      simp only [HAVT.out.2, hv]⟩
                    have HAN : Hid ((argP ks ks').take (k + 1) = (argP ks ks').take k ++ [(u, v)]) := Lib.hid (by rw [argP_next hk1 hk2, hu, hv])
                    obtain ⟨A7, c7, htv⟩ := own_shapeP HK.out.web.todo
                    obtain ⟨L, hL⟩ : ∃ L, (td1 ++ (argP ks ks').take k).length = L := ⟨_, rfl⟩
                    have HLL := Lib.hid hL
                    have hLb : L ≤ 4398046511361 := by
                      rw [← hL, List.length_append, List.length_take]
                      have := HMT.out; omega
                    rw [hL] at htv
                    subst htv
                    clear hu hv hk1 hk2 hL
                    have p2 := HK.out.web.blk.cell 2; have p0 := HK.out.web.blk.cell 0
                    have s3 := (HK.out.web.nodes.rd HSL.out.1 (k := 3) (by omega)).1
                    have t3 := (HK.out.web.nodes.rd HTL2.out.1 (k := 3) (by omega)).1
                    simp only [PN.cells, List.getElem?_cons_succ, List.getElem?_cons_zero, HSL.out.2, HTL2.out.2] at s3 t3
                    have au := HARG.out.1 _ HK.out.web.nodes
                    have av := HARG.out.2 _ HK.out.web.nodes
                    simp at p2 p0
                    have hH_wr : (fun w' : World => w'.cell? ⟨p, 2, none⟩ = some (.slice A7 L c7) ∧ w'.cell? ⟨p, 0, none⟩ = some (.slice (some ⟨g, 0, none⟩) n c) ∧ w'.cell? ⟨g, s * 9 + 3, none⟩ = some (.slice (some ⟨gs, 0, none⟩) q cs) ∧ w'.cell? ⟨g, t * 9 + 3, none⟩ = some (.slice (some ⟨gt, 0, none⟩) q ct) ∧ w'.cell? ⟨gs, k, none⟩ = some (.int .i64 u) ∧ w'.cell? ⟨gt, k, none⟩ = some (.int .i64 v)) wr := ⟨p2, p0, s3, t3, au, av⟩
                    go_upto_region 14 with fail
                    refine wp_region_Y (S := (fun w' : World => w'.cell? ⟨p, 2, none⟩ = some (.slice A7 L c7) ∧ w'.cell? ⟨p, 0, none⟩ = some (.slice (some ⟨g, 0, none⟩) n c) ∧ w'.cell? ⟨g, s * 9 + 3, none⟩ = some (.slice (some ⟨gs, 0, none⟩) q cs) ∧ w'.cell? ⟨g, t * 9 + 3, none⟩ = some (.slice (some ⟨gt, 0, none⟩) q ct) ∧ w'.cell? ⟨gs, k, none⟩ = some (.int .i64 u) ∧ w'.cell? ⟨gt, k, none⟩ = some (.int .i64 v))) 32 (by kernel_rfl) (⟨p2, p0, s3, t3, au, av⟩) (fun hHeld => ?_)
                    refine wpAnyY_take (i := 0) (v := ?_) rfl (by kernel_rfl) (by kernel_rfl) (by kernel_rfl) (by kernel_rfl) (fun _ _ _ h => h) (Or.inl ⟨by rfl, ?_⟩) (by assumption) ?_
                    rotate_left 1
                    · (intro w' hSw; obtain ⟨s0, s1, s2, s3, s4, s5⟩ := hSw; go_simp); try with_reducible rfl
                    try simp only [Act.put, List.setIfInBounds_toArray, List.set_cons_zero, List.set_cons_succ, Nat.zero_add]
                    refine wpAnyY_take (i := 1) (v := ?_) rfl (by kernel_rfl) (by kernel_rfl) (by kernel_rfl) (by kernel_rfl) (fun _ _ _ h => h) (Or.inl ⟨by rfl, ?_⟩) (by assumption) ?_
                    rotate_left 1
                    · (intro w' hSw; obtain ⟨s0, s1, s2, s3, s4, s5⟩ := hSw; go_simp); try with_reducible rfl
                    try simp only [Act.put, List.setIfInBounds_toArray, List.set_cons_zero, List.set_cons_succ, Nat.zero_add]
                    refine wpAnyY_take (i := 2) (v := ?_) rfl (by kernel_rfl) (by kernel_rfl) (by kernel_rfl) (by kernel_rfl) (fun _ _ _ h => h) (Or.inl ⟨by rfl, ?_⟩) (by assumption) ?_
                    rotate_left 1
                    · (intro w' hSw; obtain ⟨s0, s1, s2, s3, s4, s5⟩ := hSw; go_simp); try with_reducible rfl
                    try simp only [Act.put, List.setIfInBounds_toArray, List.set_cons_zero, List.set_cons_succ, Nat.zero_add]
                    refine wpAnyY_take (i := 3) (v := ?_) rfl (by kernel_rfl) (by kernel_rfl) (by kernel_rfl) (by kernel_rfl) (fun _ _ _ h => h) (Or.inl ⟨by rfl, ?_⟩) (by assumption) ?_
                    rotate_left 1
                    · (intro w' hSw; obtain ⟨s0, s1, s2, s3, s4, s5⟩ := hSw; go_simp); try with_reducible rfl
                    try simp only [Act.put, List.setIfInBounds_toArray, List.set_cons_zero, List.set_cons_succ, Nat.zero_add]
                    refine wpAnyY_take (i := 4) (v := ?_) rfl (by kernel_rfl) (by kernel_rfl) (by kernel_rfl) (by kernel_rfl) (fun _ _ _ h => h) (Or.inl ⟨by rfl, ?_⟩) (by assumption) ?_
                    rotate_left 1
                    · (intro w' hSw; obtain ⟨s0, s1, s2, s3, s4, s5⟩ := hSw; go_simp); try with_reducible rfl
                    try simp only [Act.put, List.setIfInBounds_toArray, List.set_cons_zero, List.set_cons_succ, Nat.zero_add]
                    refine wpAnyY_take (i := 5) (v := ?_) rfl (by kernel_rfl) (by kernel_rfl) (by kernel_rfl) (by kernel_rfl) (fun _ _ _ h => h) (Or.inl ⟨by rfl, ?_⟩) (by assumption) ?_
                    rotate_left 1
                    · (intro w' hSw; obtain ⟨s0, s1, s2, s3, s4, s5⟩ := hSw; go_simp); try with_reducible rfl
                    try simp only [Act.put, List.setIfInBounds_toArray, List.set_cons_zero, List.set_cons_succ, Nat.zero_add]
                    refine wpAnyY_take (i := 6) (v := ?_) rfl (by kernel_rfl) (by kernel_rfl) (by kernel_rfl) (by kernel_rfl) (fun _ _ _ h => h) (Or.inl ⟨by rfl, ?_⟩) (by assumption) ?_
                    rotate_left 1
                    · (intro w' hSw; obtain ⟨s0, s1, s2, s3, s4, s5⟩ := hSw; go_simp); try with_reducible rfl
                    try simp only [Act.put, List.setIfInBounds_toArray, List.set_cons_zero, List.set_cons_succ, Nat.zero_add]
                    refine wpAnyY_take (i := 7) (v := ?_) rfl (by kernel_rfl) (by kernel_rfl) (by kernel_rfl) (by kernel_rfl) (fun _ _ _ h => h) (Or.inl ⟨by rfl, ?_⟩) (by assumption) ?_
                    rotate_left 1
                    · (intro w' hSw; obtain ⟨s0, s1, s2, s3, s4, s5⟩ := hSw; go_simp); try with_reducible rfl
                    try simp only [Act.put, List.setIfInBounds_toArray, List.set_cons_zero, List.set_cons_succ, Nat.zero_add]
                    refine wpAnyY_take (i := 8) (v := ?_) rfl (by kernel_rfl) (by kernel_rfl) (by kernel_rfl) (by kernel_rfl) (fun _ _ _ h => h) (Or.inl ⟨by rfl, ?_⟩) (by assumption) ?_
                    rotate_left 1
                    · (intro w' hSw; obtain ⟨s0, s1, s2, s3, s4, s5⟩ := hSw; go_simp); try with_reducible rfl
                    try simp only [Act.put, List.setIfInBounds_toArray, List.set_cons_zero, List.set_cons_succ, Nat.zero_add]
                    refine wpAnyY_take (i := 9) (v := ?_) rfl (by kernel_rfl) (by kernel_rfl) (by kernel_rfl) (by kernel_rfl) (fun _ _ _ h => h) (Or.inl ⟨by rfl, ?_⟩) (by assumption) ?_
                    rotate_left 1
                    · (intro w' hSw; obtain ⟨s0, s1, s2, s3, s4, s5⟩ := hSw; go_simp); try with_reducible rfl
                    try simp only [Act.put, List.setIfInBounds_toArray, List.set_cons_zero, List.set_cons_succ, Nat.zero_add]
                    refine wpAnyY_take (i := 10) (v := ?_) rfl (by kernel_rfl) (by kernel_rfl) (by kernel_rfl) (by kernel_rfl) (fun _ _ _ h => h) (Or.inl ⟨by rfl, ?_⟩) (by assumption) ?_
                    rotate_left 1
                    · (intro w' hSw; obtain ⟨s0, s1, s2, s3, s4, s5⟩ := hSw; go_simp); try with_reducible rfl
                    try simp only [Act.put, List.setIfInBounds_toArray, List.set_cons_zero, List.set_cons_succ, Nat.zero_add]
                    refine wpAnyY_take (i := 11) (v := ?_) rfl (by kernel_rfl) (by kernel_rfl) (by kernel_rfl) (by kernel_rfl) (fun _ _ _ h => h) (Or.inl ⟨by rfl, ?_⟩) (by assumption) ?_
                    rotate_left 1
                    · (intro w' hSw; obtain ⟨s0, s1, s2, s3, s4, s5⟩ := hSw; go_simp); try with_reducible rfl
                    try simp only [Act.put, List.setIfInBounds_toArray, List.set_cons_zero, List.set_cons_succ, Nat.zero_add]
                    refine wpAnyY_take (i := 12) (v := ?_) rfl (by kernel_rfl) (by kernel_rfl) (by kernel_rfl) (by kernel_rfl) (fun _ _ _ h => h) (Or.inl ⟨by rfl, ?_⟩) (by assumption) ?_
                    rotate_left 1
                    · (intro w' hSw; obtain ⟨s0, s1, s2, s3, s4, s5⟩ := hSw; go_simp); try with_reducible rfl
                    try simp only [Act.put, List.setIfInBounds_toArray, List.set_cons_zero, List.set_cons_succ, Nat.zero_add]
                    refine wpAnyY_take (i := 13) (v := ?_) rfl (by kernel_rfl) (by kernel_rfl) (by kernel_rfl) (by kernel_rfl) (fun _ _ _ h => h) (Or.inl ⟨by rfl, ?_⟩) (by assumption) ?_
                    rotate_left 1
                    · (intro w' hSw; obtain ⟨s0, s1, s2, s3, s4, s5⟩ := hSw; go_simp); try with_reducible rfl
                    try simp only [Act.put, List.setIfInBounds_toArray, List.set_cons_zero, List.set_cons_succ, Nat.zero_add]
                    refine wpAnyY_take (i := 14) (v := ?_) rfl (by kernel_rfl) (by kernel_rfl) (by kernel_rfl) (by kernel_rfl) (fun _ _ _ h => h) (Or.inl ⟨by rfl, ?_⟩) (by assumption) ?_
                    rotate_left 1
                    · (intro w' hSw; obtain ⟨s0, s1, s2, s3, s4, s5⟩ := hSw; go_simp); try with_reducible rfl
                    try simp only [Act.put, List.setIfInBounds_toArray, List.set_cons_zero, List.set_cons_succ, Nat.zero_add]
                    refine wpAnyY_take (i := 15) (v := ?_) rfl (by kernel_rfl) (by kernel_rfl) (by kernel_rfl) (by kernel_rfl) (fun _ _ _ h => h) (Or.inl ⟨by rfl, ?_⟩) (by assumption) ?_
                    rotate_left 1
                    · (intro w' hSw; obtain ⟨s0, s1, s2, s3, s4, s5⟩ := hSw; go_simp); try with_reducible rfl
                    try simp only [Act.put, List.setIfInBounds_toArray, List.set_cons_zero, List.set_cons_succ, Nat.zero_add]
                    refine wpAnyY_take (i := 16) (v := ?_) rfl (by kernel_rfl) (by kernel_rfl) (by kernel_rfl) (by kernel_rfl) (fun _ _ _ h => h) (Or.inl ⟨by rfl, ?_⟩) (by assumption) ?_
                    rotate_left 1
                    · (intro w' hSw; obtain ⟨s0, s1, s2, s3, s4, s5⟩ := hSw; go_simp); try with_reducible rfl
                    try simp only [Act.put, List.setIfInBounds_toArray, List.set_cons_zero, List.set_cons_succ, Nat.zero_add]
                    refine wpAnyY_take (i := 17) (v := ?_) rfl (by kernel_rfl) (by kernel_rfl) (by kernel_rfl) (by kernel_rfl) (fun _ _ _ h => h) (Or.inl ⟨by rfl, ?_⟩) (by assumption) ?_
                    rotate_left 1
                    · (intro w' hSw; obtain ⟨s0, s1, s2, s3, s4, s5⟩ := hSw; go_simp); try with_reducible rfl
                    try simp only [Act.put, List.setIfInBounds_toArray, List.set_cons_zero, List.set_cons_succ, Nat.zero_add]
                    refine wpAnyY_take (i := 18) (v := ?_) rfl (by kernel_rfl) (by kernel_rfl) (by kernel_rfl) (by kernel_rfl) (fun _ _ _ h => h) (Or.inl ⟨by rfl, ?_⟩) (by assumption) ?_
                    rotate_left 1
                    · (intro w' hSw; obtain ⟨s0, s1, s2, s3, s4, s5⟩ := hSw; go_simp); try with_reducible rfl
                    try simp only [Act.put, List.setIfInBounds_toArray, List.set_cons_zero, List.set_cons_succ, Nat.zero_add]
                    refine wpAnyY_take (i := 19) (v := ?_) rfl (by kernel_rfl) (by kernel_rfl) (by kernel_rfl) (by kernel_rfl) (fun _ _ _ h => h) (Or.inl ⟨by rfl, ?_⟩) (by assumption) ?_
                    rotate_left 1
                    · (intro w' hSw; obtain ⟨s0, s1, s2, s3, s4, s5⟩ := hSw; go_simp); try with_reducible rfl
                    try simp only [Act.put, List.setIfInBounds_toArray, List.set_cons_zero, List.set_cons_succ, Nat.zero_add]
                    refine wpAnyY_take (i := 20) (v := ?_) rfl (by kernel_rfl) (by kernel_rfl) (by kernel_rfl) (by kernel_rfl) (fun _ _ _ h => h) (Or.inl ⟨by rfl, ?_⟩) (by assumption) ?_
                    rotate_left 1
                    · (intro w' hSw; obtain ⟨s0, s1, s2, s3, s4, s5⟩ := hSw; go_simp); try with_reducible rfl
                    try simp only [Act.put, List.setIfInBounds_toArray, List.set_cons_zero, List.set_cons_succ, Nat.zero_add]
                    refine wpAnyY_take (i := 21) (v := ?_) rfl (by kernel_rfl) (by kernel_rfl) (by kernel_rfl) (by kernel_rfl) (fun _ _ _ h => h) (Or.inl ⟨by rfl, ?_⟩) (by assumption) ?_
                    rotate_left 1
                    · (intro w' hSw; obtain ⟨s0, s1, s2, s3, s4, s5⟩ := hSw; go_simp); try with_reducible rfl
                    try simp only [Act.put, List.setIfInBounds_toArray, List.set_cons_zero, List.set_cons_succ, Nat.zero_add]
                    refine wpAnyY_take (i := 22) (v := ?_) rfl (by kernel_rfl) (by kernel_rfl) (by kernel_rfl) (by kernel_rfl) (fun _ _ _ h => h) (Or.inl ⟨by rfl, ?_⟩) (by assumption) ?_
                    rotate_left 1
                    · (intro w' hSw; obtain ⟨s0, s1, s2, s3, s4, s5⟩ := hSw; go_simp); try with_reducible rfl
                    try simp only [Act.put, List.setIfInBounds_toArray, List.set_cons_zero, List.set_cons_succ, Nat.zero_add]
                    refine wpAnyY_take (i := 23) (v := ?_) rfl (by kernel_rfl) (by kernel_rfl) (by kernel_rfl) (by kernel_rfl) (fun _ _ _ h => h) (Or.inl ⟨by rfl, ?_⟩) (by assumption) ?_
                    rotate_left 1
                    · (intro w' hSw; obtain ⟨s0, s1, s2, s3, s4, s5⟩ := hSw; go_simp); try with_reducible rfl
                    try simp only [Act.put, List.setIfInBounds_toArray, List.set_cons_zero, List.set_cons_succ, Nat.zero_add]
                    refine wpAnyY_take (i := 24) (v := ?_) rfl (by kernel_rfl) (by kernel_rfl) (by kernel_rfl) (by kernel_rfl) (fun _ _ _ h => h) (Or.inl ⟨by rfl, ?_⟩) (by assumption) ?_
                    rotate_left 1
                    · (intro w' hSw; obtain ⟨s0, s1, s2, s3, s4, s5⟩ := hSw; go_simp); try with_reducible rfl
                    try simp only [Act.put, List.setIfInBounds_toArray, List.set_cons_zero, List.set_cons_succ, Nat.zero_add]
                    refine wpAnyY_take (i := 25) (v := ?_) rfl (by kernel_rfl) (by kernel_rfl) (by kernel_rfl) (by kernel_rfl) (fun _ _ _ h => h) (Or.inl ⟨by rfl, ?_⟩) (by assumption) ?_
                    rotate_left 1
                    · (intro w' hSw; obtain ⟨s0, s1, s2, s3, s4, s5⟩ := hSw; go_simp); try with_reducible rfl
                    try simp only [Act.put, List.setIfInBounds_toArray, List.set_cons_zero, List.set_cons_succ, Nat.zero_add]
                    refine wpAnyY_take (i := 26) (v := ?_) rfl (by kernel_rfl) (by kernel_rfl) (by kernel_rfl) (by kernel_rfl) (fun _ _ _ h => h) (Or.inl ⟨by rfl, ?_⟩) (by assumption) ?_
                    rotate_left 1
                    · (intro w' hSw; obtain ⟨s0, s1, s2, s3, s4, s5⟩ := hSw; go_simp); try with_reducible rfl
                    try simp only [Act.put, List.setIfInBounds_toArray, List.set_cons_zero, List.set_cons_succ, Nat.zero_add]
                    refine wpAnyY_take (i := 27) (v := ?_) rfl (by kernel_rfl) (by kernel_rfl) (by kernel_rfl) (by kernel_rfl) (fun _ _ _ h => h) (Or.inl ⟨by rfl, ?_⟩) (by assumption) ?_
                    rotate_left 1
                    · (intro w' hSw; obtain ⟨s0, s1, s2, s3, s4, s5⟩ := hSw; go_simp); try with_reducible rfl
                    try simp only [Act.put, List.setIfInBounds_toArray, List.set_cons_zero, List.set_cons_succ, Nat.zero_add]
                    refine wpAnyY_one (i := 28) rfl (by kernel_rfl) (fun K hK => ?_)
                    go_simp
                    obtain ⟨u6, hu6⟩ : ∃ q : World, (World.alloc wr (Obj.cells #[.int .i64 u, .int .i64 v] 98)).drew = q := ⟨_, rfl⟩
                    rw [hu6]
                    have HK6 : Hid (MeetM w B p mb (.slice (some ⟨g, 0, none⟩) n c) tv0 hm u6 (.slice A7 L c7) l4 (td1 ++ (argP ks ks').take k)) := Lib.hid (by rw [← hu6]; exact (HK.out.alloc _).drew)
                    have HNEW := Lib.hid (news_cells (Blk.drew (Blk.new wr 98 #[.int .i64 u, .int .i64 v])))
                    rw [hu6] at HNEW
                    clear hu6 HK p2 p0 s3 t3 au av hHeld
                    have p2 := HK6.out.web.blk.cell 2; have p0 := HK6.out.web.blk.cell 0
                    have s3 := (HK6.out.web.nodes.rd HSL.out.1 (k := 3) (by omega)).1
                    have t3 := (HK6.out.web.nodes.rd HTL2.out.1 (k := 3) (by omega)).1
                    simp only [PN.cells, List.getElem?_cons_succ, List.getElem?_cons_zero, HSL.out.2, HTL2.out.2] at s3 t3
                    have au := HARG.out.1 _ HK6.out.web.nodes
                    have av := HARG.out.2 _ HK6.out.web.nodes
                    simp at p2 p0
                    have hH_u6 : (fun w' : World => w'.cell? ⟨p, 2, none⟩ = some (.slice A7 L c7) ∧ w'.cell? ⟨p, 0, none⟩ = some (.slice (some ⟨g, 0, none⟩) n c) ∧ w'.cell? ⟨g, s * 9 + 3, none⟩ = some (.slice (some ⟨gs, 0, none⟩) q cs) ∧ w'.cell? ⟨g, t * 9 + 3, none⟩ = some (.slice (some ⟨gt, 0, none⟩) q ct) ∧ w'.cell? ⟨gs, k, none⟩ = some (.int .i64 u) ∧ w'.cell? ⟨gt, k, none⟩ = some (.int .i64 v)) u6 := ⟨p2, p0, s3, t3, au, av⟩
                    refine hK.out _ _ (fun _ => hH_u6) ?_
                    clear hK K
                    try simp only [Act.put, List.setIfInBounds_toArray, List.set_cons_zero, List.set_cons_succ, Nat.zero_add]
                    refine wpAnyY_one (i := 29) rfl (by kernel_rfl) (fun K hK => ?_)
                    refine step_append_from (P := Tryd.prog) u6 (by rfl) (.tmp 125) (.tmp 149) 84 (by rfl) B 98 Tryd.underlying84 pair_info15 rfl (by omega) (.slice A7 L c7) (td1 ++ (argP ks ks').take k).length ((td1 ++ (argP ks ks').take k).flatMap pairCells) (by rfl) HK6.out.web.todo (some ⟨wr.heap.size, 0, none⟩) 1 1 [.int .i64 u, .int .i64 v] (by rfl) (by rfl) (by simp) (fun ad e => by cases e; exact HNEW.out) (fun z hz => by simp only [List.mem_cons, List.not_mem_nil, or_false] at hz; rcases hz with rfl | rfl <;> rfl) (by rw [HLL.out]; unfold maxLen; omega) (by rw [HLL.out]; omega) (by have := HK6.out.kb.size; have := HBB.out; omega) ?_
                    intro A8 c8 w8 own8 hg8 hat8
                    rw [HLL.out] at own8 hat8
                    (try rw [HLL.out])
                    have HK8 : Hid (MeetM w B p mb (.slice (some ⟨g, 0, none⟩) n c) tv0 hm (w8.setCell ⟨p, 2, none⟩ (.slice A8 (L + 1) c8)) (.slice A8 (L + 1) c8) l4 (td1 ++ (argP ks ks').take (k + 1))) := Lib.hid (HK6.out.todo hg8 (fun b e => e) (by rw [HAN.out, ← List.append_assoc, List.flatMap_append, List.length_append, HLL.out]; exact own8) (fun b e => by
                      rcases hat8 with h | h
                      · rw [h] at e; exact .inl e
                      · rw [h] at e; injection e with e; exact .inr (by omega)))
                    have HB8 : Hid (Blk w8 p 86 #[(.slice (some ⟨g, 0, none⟩) n c), .map (some mb), .slice A7 L c7]) := Lib.hid (HK6.out.web.blk.grown hg8 (fun e => own_ne_blkX HK6.out.web.todo HK6.out.web.blk (by decide) e.symm))
                    have HN8 : Hid (NodesM w8 B (.slice (some ⟨g, 0, none⟩) n c) l4) := Lib.hid (HK6.out.web.nodes.kept hg8 (fun b e => ⟨fun e2 => own_type_ne HK6.out.web.nodes.row HK6.out.web.todo (by decide) b e2 e, fun z hz e2 => own_type_ne (HK6.out.web.nodes.args z hz) HK6.out.web.todo (by decide) b e2 e⟩))
                    clear own8 hg8 hat8 HK6 HNEW p2 p0 s3 t3 au av hH_u6
                    have p2 := HB8.out.cell 2; have p0 := HB8.out.cell 0; have p2f := HB8.out.frozen 2
                    have s3 := (HN8.out.rd HSL.out.1 (k := 3) (by omega)).1
                    have t3 := (HN8.out.rd HTL2.out.1 (k := 3) (by omega)).1
                    simp only [PN.cells, List.getElem?_cons_succ, List.getElem?_cons_zero, HSL.out.2, HTL2.out.2] at s3 t3
                    have au := HARG.out.1 _ HN8.out
                    have av := HARG.out.2 _ HN8.out
                    simp at p2 p0
                    have hH_w8 : (fun w' : World => w'.cell? ⟨p, 2, none⟩ = some (.slice A7 L c7) ∧ w'.cell? ⟨p, 0, none⟩ = some (.slice (some ⟨g, 0, none⟩) n c) ∧ w'.cell? ⟨g, s * 9 + 3, none⟩ = some (.slice (some ⟨gs, 0, none⟩) q cs) ∧ w'.cell? ⟨g, t * 9 + 3, none⟩ = some (.slice (some ⟨gt, 0, none⟩) q ct) ∧ w'.cell? ⟨gs, k, none⟩ = some (.int .i64 u) ∧ w'.cell? ⟨gt, k, none⟩ = some (.int .i64 v)) w8 := ⟨p2, p0, s3, t3, au, av⟩
                    refine hK.out _ _ (fun _ => hH_w8) ?_
                    clear hK K
                    try simp only [Act.put, List.setIfInBounds_toArray, List.set_cons_zero, List.set_cons_succ, Nat.zero_add]
                    refine wpAnyY_take0 (i := 30) (v := ?_) rfl (by kernel_rfl) (by kernel_rfl) (by kernel_rfl) (by kernel_rfl) (fun _ _ _ h => h) (Or.inl ⟨by rfl, ?_⟩) ?_
                    rotate_left 1
                    · (intro w' _; go_simp); try with_reducible rfl
                    try simp only [Act.put, List.setIfInBounds_toArray, List.set_cons_zero, List.set_cons_succ, Nat.zero_add]
                    refine wpAnyY_take (i := 31) (v := ?_) rfl (by kernel_rfl) (by kernel_rfl) (by kernel_rfl) (by kernel_rfl) (fun _ _ _ h => h) (Or.inl ⟨by rfl, ?_⟩) (by assumption) ?_
                    rotate_left 1
                    · (intro w' hSw; obtain ⟨s0, s1, s2, s3, s4, s5⟩ := hSw; go_simp); try with_reducible rfl
                    try simp only [Act.put, List.setIfInBounds_toArray, List.set_cons_zero, List.set_cons_succ, Nat.zero_add]
                    refine wpAnyY_one0 (i := 32) rfl (by kernel_rfl) (by kernel_rfl) (fun K hK => ?_)
                    go_simp
                    refine hK.out _ _ ?_
                    clear hK K
                    try simp only [Act.put, List.setIfInBounds_toArray, List.set_cons_zero, List.set_cons_succ, Nat.zero_add]
                    refine wpAnyY_done (by kernel_rfl) ?_ _
                    clear p2 p0 s3 t3 au av p2f hH_w8
                    obtain ⟨w9, hw9⟩ : ∃ q, w8.setCell ⟨p, 2, none⟩ (.slice A8 (L + 1) c8) = q := ⟨_, rfl⟩
                    rw [hw9] at HK8
                    try rw [hw9]
                    clear hw9 HB8 HN8
                    go_wp2_with fail
                    go_roundg (q - (k + 1))
                    case measure => omega
                    case rel => exact ⟨k + 1, _, by go_num, rfl, by omega, HK8.out⟩
                  · have hkq' : ¬ (k : Int) < q := by omega
                    obtain ⟨more, hmore⟩ : ∃ z, argP ks ks' = z := ⟨_, rfl⟩
                    have HMORE : Hid (more.length ≤ 256) := Lib.hid (by rw [← hmore, argP_len HHH.out.2, HQ.out]; exact hq256)
                    obtain ⟨tv5, htv5⟩ : ∃ z, z = tv' := ⟨_, rfl⟩
                    subst htv5
                    obtain ⟨w5, hw5⟩ : ∃ z : World, z = wr := ⟨_, rfl⟩
                    subst hw5
                    have HM5 : Hid (MeetM w B p mb (.slice (some ⟨g, 0, none⟩) n c) tv0 hm w5 tv5 l4 (td1 ++ more)) := Lib.hid (by
                      have h := HK.out
                      rw [List.take_of_length_le (by rw [argP_len HHH.out.2, HQ.out]; omega), hmore] at h
                      exact h)
                    have HU5 : Hid (USt W (uniR r x y) (uniT tm x y) (uniL lo x y) (td1 ++ more) E) := Lib.hid (HI.out.ust.unite HRX.out HRY.out HXY2.out (fun s' t' h1 h2 => by
                      rw [HSA.out] at h1; injection h1 with h1
                      rw [HTA.out] at h2; injection h2 with h2
                      subst h1; subst h2
                      exact ⟨nm, ks, ks', HS3.out, by rw [HHH.out.1]; exact HT3.out, HHH.out.2, hmore.symm⟩) (fun h => by
                      rcases h with h | h
                      · rw [HSA.out] at h; cases h
                      · rw [HTA.out] at h; cases h))
                    have HTX : Hid (tmV (uniT tm x y x) = (s : Int)) := Lib.hid (by unfold uniT; rw [if_pos rfl, HSA.out]; rfl)
                    have HSN : Hid (¬ (s : Int) < 0) := Lib.hid (by omega)
                    clear hmore HK
                    go_upto_region 16 with fail
                    obtain ⟨l6, hl6⟩ : ∃ q, l4.set y { l4[y]'(by rw [HLN4.out]; exact HXY.out.2) with up := x } = q := ⟨_, rfl⟩
                    have hm6 : MeetM w B p mb (.slice (some ⟨g, 0, none⟩) n c) tv0 hm (w5.setCell ⟨g, y * 9 + 4, none⟩ (.int .i64 x)) tv5 l6 (td1 ++ more) := by
                      rw [← hl6]
                      exact HM5.out.node (by rw [HLN4.out]; exact HXY.out.2) (k := 4) (by omega) rfl ⟨rfl, rfl⟩
                    have HL6 : Hid (l6.length = n) := Lib.hid (by rw [← hl6, List.length_set]; exact HLN4.out)
                    have HL6E := Lib.hid hl6
                    clear hl6
                    have p0 := HM5.out.web.blk.cell 0
                    have cy := (HM5.out.web.nodes.rd (i := y) (by rw [HLN4.out]; exact HXY.out.2) (k := 4) (by omega))
                    obtain ⟨cy4, cy4f⟩ := cy
                    obtain ⟨zy, cy4⟩ : ∃ z, w5.cell? ⟨g, y * 9 + 4, none⟩ = some z := ⟨_, cy4⟩
                    simp at p0
                    go_upto_region 17 with fail
                    obtain ⟨w6, hw6⟩ : ∃ q, w5.setCell ⟨g, y * 9 + 4, none⟩ (.int .i64 x) = q := ⟨_, rfl⟩
                    rw [hw6] at hm6
                    have HM6 := Lib.hid hm6
                    (try rw [hw6])
                    clear hw6 hm6 p0 cy4 cy4f HM5
                    have p0 := HM6.out.web.blk.cell 0
                    simp at p0
                    have hs0 : ¬ (s : Int) < 0 := by omega
                    go_upto_region 19 with fail
                    obtain ⟨l7, hl7⟩ : ∃ q, l6 = q := ⟨_, rfl⟩
                    obtain ⟨w7, hw7⟩ : ∃ q, w6 = q := ⟨_, rfl⟩
                    have HM7 : Hid (MeetM w B p mb (.slice (some ⟨g, 0, none⟩) n c) tv0 hm w7 tv5 l7 (td1 ++ more)) := Lib.hid (by rw [← hl7, ← hw7]; exact HM6.out)
                    (try rw [hw7])
                    have HL7E := Lib.hid hl7
                    clear hw7 p0 HM6 hl7
                    have HL7 : Hid (l7.length = n) := Lib.hid (by rw [← HL7E.out]; exact HL6.out)
                    have hy7 : l7[y]'(by rw [HL7.out]; exact HXY.out.2) = { l4[y]'(by rw [HLN4.out]; exact HXY.out.2) with up := x } := by
                      simp only [← HL7E.out, ← HL6E.out]
                      rw [List.getElem_set_self]
                    have hx7 : l7[x]'(by rw [HL7.out]; exact HXY.out.1) = { l4[x]'(by rw [HLN4.out]; exact HXY.out.1) with term := (s : Int) } := by
                      simp only [← HL7E.out, ← HL6E.out]
                      rw [List.getElem_set_ne (Ne.symm HXY2.out), ← HTE.out]
                    have ho7 : ∀ i (h : i < l4.length) (h' : i < l7.length), i ≠ x → i ≠ y → l7[i] = l4[i] := fun i h h' e1 e2 => by
                      simp only [← HL7E.out, ← HL6E.out]
                      rw [List.getElem_set_ne (Ne.symm e2)]
                    have HY7 := Lib.hid hy7; have HX7 := Lib.hid hx7; have HO7 := Lib.hid ho7
                    have p0 := HM7.out.web.blk.cell 0
                    have cy6 := (HM7.out.web.nodes.rd (i := y) (by rw [HL7.out]; exact HXY.out.2) (k := 6) (by omega)).1
                    have cx6 := (HM7.out.web.nodes.rd (i := x) (by rw [HL7.out]; exact HXY.out.1) (k := 6) (by omega)).1
                    have cx6f := (HM7.out.web.nodes.rd (i := x) (by rw [HL7.out]; exact HXY.out.1) (k := 6) (by omega)).2
                    rw [hy7] at cy6
                    rw [hx7] at cx6
                    simp only [PN.cells, List.getElem?_cons_succ, List.getElem?_cons_zero, HLOY.out, HLOX.out] at cx6 cy6
                    simp at p0
                    clear hy7 hx7 ho7
                    have HEND : Hid (∀ (wz : World) (lz : List PN) (h : x < lz.length), MeetM w B p mb (.slice (some ⟨g, 0, none⟩) n c) tv0 hm wz tv5 lz (td1 ++ more) → lz.length = l7.length → (∀ i (h : i < l7.length) (h' : i < lz.length), i ≠ x → lz[i] = l7[i]) → lz[x] = { l4[x]'(by rw [HLN4.out]; exact HXY.out.1) with term := (s : Int), low := uniL lo x y x } → MeetI w B p mb (.slice (some ⟨g, 0, none⟩) n c) tv0 hm W E r0 n a b wz tv5 lz (td1 ++ more) (uniR r x y) (uniT tm x y) (uniL lo x y)) := Lib.hid (fun wz lz hxl hmz hlz hoz hxz => by
                      have hl4 := HLN4.out
                      have h7 := HL7.out
                      have hz4 : lz.length = l4.length := by omega
                      refine ⟨hmz, ?_, HU5.out, fun i j h => rel_unite HRX.out HRY.out (HI.out.rel i j h), ?_, ?_, by omega⟩
                      · refine HPW4.out.unite (by rw [hl4]; exact HXY.out.1) (by rw [hl4]; exact HXY.out.2) HRR.out.1 HRR.out.2 HXY2.out hz4 (fun h' => ?_) (fun h' => ?_) (fun i hi h' e1 e2 => ?_)
                        · rw [hoz y (by rw [h7]; exact HXY.out.2) h' (Ne.symm HXY2.out)]; exact HY7.out
                        · rw [hxz, HTX.out]
                        · rw [hoz i (by omega) h' e1]; exact HO7.out i hi (by omega) e1 e2
                      · have h1 := HI.out.few
                        have h2 := rootsN_uni (n := n) HXY.out.2 HRR.out.1 HRR.out.2 HXY2.out
                        have h3 := HMORE.out
                        simp only [List.length_append, List.length_cons, List.length_nil] at h1 ⊢
                        omega
                      · intro z hz
                        obtain ⟨i, hi, rfl⟩ := List.getElem_of_mem hz
                        have ha := nok_ups HS4.out HI.out.args
                        by_cases e1 : i = x
                        · subst e1; rw [hxz]; exact ha (l4[i]'(by omega)) (List.getElem_mem _)
                        · rw [hoz i (by omega) hi e1]
                          by_cases e2 : i = y
                          · subst e2; rw [HY7.out]; exact ha (l4[i]'(by omega)) (List.getElem_mem _)
                          · rw [HO7.out i (by omega) (by omega) e1 e2]; exact ha _ (List.getElem_mem _))
                    have HMEAS : Hid (257 * rootsN n (uniR r x y) + (td1 ++ more).length < 257 * rootsN n r + (td1.length + 1)) := Lib.hid (by
                      have h2 := rootsN_uni (n := n) HXY.out.2 HRR.out.1 HRR.out.2 HXY2.out
                      have h3 := HMORE.out
                      simp only [List.length_append]
                      omega)
                    by_cases hy0 : ly = 0
                    · subst hy0
                      have HLX : Hid (uniL lo x y x = lx) := Lib.hid (by unfold uniL; rw [if_pos rfl, HL0Y.out, HL0X.out, if_neg (by omega)])
                      go_wp2_with fail
                      go_roundg (257 * rootsN n (uniR r x y) + (td1 ++ more).length)
                      case measure => exact HMEAS.out
                      case rel => exact ⟨tv5, l7, td1 ++ more, _, _, _, rfl, rfl, HEND.out _ l7 (by rw [HL7.out]; exact HXY.out.1) HM7.out rfl (fun _ _ _ _ => rfl) (by rw [HX7.out, HLX.out, ← HLOX.out])⟩
                    · have hyp : (0 : Int) < ly := by omega
                      by_cases hst : lx = 0 ∨ ly < lx
                      · have HLX : Hid (uniL lo x y x = ly) := Lib.hid (by unfold uniL; rw [if_pos rfl, HL0Y.out, HL0X.out, if_pos ⟨by omega, hst⟩])
                        have hb : (((lx : Int) == 0) = true) ∨ ((((lx : Int) == 0) = false) ∧ (ly : Int) < lx) := by
                          rcases Nat.eq_zero_or_pos lx with e | e
                          · exact .inl (by rw [e]; rfl)
                          · exact .inr ⟨beq_eq_false_iff_ne.2 (by omega), by omega⟩
                        clear hst
                        rcases hb with hb | ⟨hb, hb2⟩
                        all_goals
                          go_wp2_with fail
                          go_roundg (257 * rootsN n (uniR r x y) + (td1 ++ more).length)
                          case measure => exact HMEAS.out
                          case rel =>
                            refine ⟨tv5, l7.set x { l4[x]'(by rw [HLN4.out]; exact HXY.out.1) with term := (s : Int), low := ly }, td1 ++ more, _, _, _, rfl, rfl, HEND.out _ _ (by rw [List.length_set, HL7.out]; exact HXY.out.1) (HM7.out.node (by rw [HL7.out]; exact HXY.out.1) (k := 6) (by omega) (by rw [HX7.out]; rfl) (by rw [HX7.out]; exact ⟨rfl, rfl⟩)) (by rw [List.length_set]) (fun i _ _ e => by rw [List.getElem_set_ne (Ne.symm e)]) (by rw [List.getElem_set_self, HLX.out])⟩
                      · have HLX : Hid (uniL lo x y x = lx) := Lib.hid (by unfold uniL; rw [if_pos rfl, HL0Y.out, HL0X.out, if_neg (fun e => hst e.2)])
                        have hb : ((lx : Int) == 0) = false := beq_eq_false_iff_ne.2 (by omega)
                        have hb2 : ¬ (ly : Int) < lx := by omega
                        clear hst
                        go_wp2_with fail
                        go_roundg (257 * rootsN n (uniR r x y) + (td1 ++ more).length)
                        case measure => exact HMEAS.out
                        case rel => exact ⟨tv5, l7, td1 ++ more, _, _, _, rfl, rfl, HEND.out _ l7 (by rw [HL7.out]; exact HXY.out.1) HM7.out rfl (fun _ _ _ _ => rfl) (by rw [HX7.out, HLX.out, ← HLOX.out])⟩
            | none =>
              as_aux_lemma =>
                have hsI2 : sI = (s : Int) := by rw [← HSE.out, hTX]; rfl
                have htI2 : tI = -1 := by rw [← HTYE.out, hTY]; rfl
                subst hsI2; subst htI2
                have HTX : Hid (tmV (uniT tm x y x) = (s : Int)) := Lib.hid (by unfold uniT; rw [if_pos rfl, hTX]; rfl)
                have HSN : Hid (¬ (s : Int) < 0) := Lib.hid (by omega)
                have hs0 : (0 : Int) ≤ s := by omega
                obtain ⟨more, hmore⟩ : ∃ z : List (Nat × Nat), [] = z := ⟨_, rfl⟩
                have HMORE : Hid (more.length ≤ 256) := Lib.hid (by rw [← hmore]; simp)
                have HU5 : Hid (USt W (uniR r x y) (uniT tm x y) (uniL lo x y) (td1 ++ more) E) := Lib.hid (HI.out.ust.unite HRX.out HRY.out HXY2.out (fun s' t' h1 h2 => by rw [hTY] at h2; cases h2) (fun _ => hmore.symm))
                obtain ⟨tv5, htv5⟩ : ∃ z, (Value.slice (some ⟨g2, 0, none⟩) m c2) = z := ⟨_, rfl⟩
                have HM5 : Hid (MeetM w B p mb (.slice (some ⟨g, 0, none⟩) n c) tv0 hm w5 tv5 l4 (td1 ++ more)) := Lib.hid (by rw [← hmore, ← htv5, List.append_nil]; exact HM5.out)
                clear hmore htv5 hTX hTY
                go_upto_region 16 with fail
                obtain ⟨l6, hl6⟩ : ∃ q, l4.set y { l4[y]'(by rw [HLN4.out]; exact HXY.out.2) with up := x } = q := ⟨_, rfl⟩
                have hm6 : MeetM w B p mb (.slice (some ⟨g, 0, none⟩) n c) tv0 hm (w5.setCell ⟨g, y * 9 + 4, none⟩ (.int .i64 x)) tv5 l6 (td1 ++ more) := by
                  rw [← hl6]
                  exact HM5.out.node (by rw [HLN4.out]; exact HXY.out.2) (k := 4) (by omega) rfl ⟨rfl, rfl⟩
                have HL6 : Hid (l6.length = n) := Lib.hid (by rw [← hl6, List.length_set]; exact HLN4.out)
                have HL6E := Lib.hid hl6
                clear hl6
                have p0 := HM5.out.web.blk.cell 0
                have cy := (HM5.out.web.nodes.rd (i := y) (by rw [HLN4.out]; exact HXY.out.2) (k := 4) (by omega))
                obtain ⟨cy4, cy4f⟩ := cy
                obtain ⟨zy, cy4⟩ : ∃ z, w5.cell? ⟨g, y * 9 + 4, none⟩ = some z := ⟨_, cy4⟩
                simp at p0
                go_upto_region 17 with fail
                obtain ⟨w6, hw6⟩ : ∃ q, w5.setCell ⟨g, y * 9 + 4, none⟩ (.int .i64 x) = q := ⟨_, rfl⟩
                rw [hw6] at hm6
                have HM6 := Lib.hid hm6
                (try rw [hw6])
                clear hw6 hm6 p0 cy4 cy4f HM5
                have p0 := HM6.out.web.blk.cell 0
                simp at p0
                have hs0 : ¬ (s : Int) < 0 := by omega
                go_upto_region 19 with fail
                obtain ⟨l7, hl7⟩ : ∃ q, l6 = q := ⟨_, rfl⟩
                obtain ⟨w7, hw7⟩ : ∃ q, w6 = q := ⟨_, rfl⟩
                have HM7 : Hid (MeetM w B p mb (.slice (some ⟨g, 0, none⟩) n c) tv0 hm w7 tv5 l7 (td1 ++ more)) := Lib.hid (by rw [← hl7, ← hw7]; exact HM6.out)
                (try rw [hw7])
                have HL7E := Lib.hid hl7
                clear hw7 p0 HM6 hl7
                have HL7 : Hid (l7.length = n) := Lib.hid (by rw [← HL7E.out]; exact HL6.out)
                have hy7 : l7[y]'(by rw [HL7.out]; exact HXY.out.2) = { l4[y]'(by rw [HLN4.out]; exact HXY.out.2) with up := x } := by
                  simp only [← HL7E.out, ← HL6E.out]
                  rw [List.getElem_set_self]
                have hx7 : l7[x]'(by rw [HL7.out]; exact HXY.out.1) = { l4[x]'(by rw [HLN4.out]; exact HXY.out.1) with term := (s : Int) } := by
                  simp only [← HL7E.out, ← HL6E.out]
                  rw [List.getElem_set_ne (Ne.symm HXY2.out), ← HTE.out]
                have ho7 : ∀ i (h : i < l4.length) (h' : i < l7.length), i ≠ x → i ≠ y → l7[i] = l4[i] := fun i h h' e1 e2 => by
                  simp only [← HL7E.out, ← HL6E.out]
                  rw [List.getElem_set_ne (Ne.symm e2)]
                have HY7 := Lib.hid hy7; have HX7 := Lib.hid hx7; have HO7 := Lib.hid ho7
                have p0 := HM7.out.web.blk.cell 0
                have cy6 := (HM7.out.web.nodes.rd (i := y) (by rw [HL7.out]; exact HXY.out.2) (k := 6) (by omega)).1
                have cx6 := (HM7.out.web.nodes.rd (i := x) (by rw [HL7.out]; exact HXY.out.1) (k := 6) (by omega)).1
                have cx6f := (HM7.out.web.nodes.rd (i := x) (by rw [HL7.out]; exact HXY.out.1) (k := 6) (by omega)).2
                rw [hy7] at cy6
                rw [hx7] at cx6
                simp only [PN.cells, List.getElem?_cons_succ, List.getElem?_cons_zero, HLOY.out, HLOX.out] at cx6 cy6
                simp at p0
                clear hy7 hx7 ho7
                have HEND : Hid (∀ (wz : World) (lz : List PN) (h : x < lz.length), MeetM w B p mb (.slice (some ⟨g, 0, none⟩) n c) tv0 hm wz tv5 lz (td1 ++ more) → lz.length = l7.length → (∀ i (h : i < l7.length) (h' : i < lz.length), i ≠ x → lz[i] = l7[i]) → lz[x] = { l4[x]'(by rw [HLN4.out]; exact HXY.out.1) with term := (s : Int), low := uniL lo x y x } → MeetI w B p mb (.slice (some ⟨g, 0, none⟩) n c) tv0 hm W E r0 n a b wz tv5 lz (td1 ++ more) (uniR r x y) (uniT tm x y) (uniL lo x y)) := Lib.hid (fun wz lz hxl hmz hlz hoz hxz => by
                  have hl4 := HLN4.out
                  have h7 := HL7.out
                  have hz4 : lz.length = l4.length := by omega
                  refine ⟨hmz, ?_, HU5.out, fun i j h => rel_unite HRX.out HRY.out (HI.out.rel i j h), ?_, ?_, by omega⟩
                  · refine HPW4.out.unite (by rw [hl4]; exact HXY.out.1) (by rw [hl4]; exact HXY.out.2) HRR.out.1 HRR.out.2 HXY2.out hz4 (fun h' => ?_) (fun h' => ?_) (fun i hi h' e1 e2 => ?_)
                    · rw [hoz y (by rw [h7]; exact HXY.out.2) h' (Ne.symm HXY2.out)]; exact HY7.out
                    · rw [hxz, HTX.out]
                    · rw [hoz i (by omega) h' e1]; exact HO7.out i hi (by omega) e1 e2
                  · have h1 := HI.out.few
                    have h2 := rootsN_uni (n := n) HXY.out.2 HRR.out.1 HRR.out.2 HXY2.out
                    have h3 := HMORE.out
                    simp only [List.length_append, List.length_cons, List.length_nil] at h1 ⊢
                    omega
                  · intro z hz
                    obtain ⟨i, hi, rfl⟩ := List.getElem_of_mem hz
                    have ha := nok_ups HS4.out HI.out.args
                    by_cases e1 : i = x
                    · subst e1; rw [hxz]; exact ha (l4[i]'(by omega)) (List.getElem_mem _)
                    · rw [hoz i (by omega) hi e1]
                      by_cases e2 : i = y
                      · subst e2; rw [HY7.out]; exact ha (l4[i]'(by omega)) (List.getElem_mem _)
                      · rw [HO7.out i (by omega) (by omega) e1 e2]; exact ha _ (List.getElem_mem _))
                have HMEAS : Hid (257 * rootsN n (uniR r x y) + (td1 ++ more).length < 257 * rootsN n r + (td1.length + 1)) := Lib.hid (by
                  have h2 := rootsN_uni (n := n) HXY.out.2 HRR.out.1 HRR.out.2 HXY2.out
                  have h3 := HMORE.out
                  simp only [List.length_append]
                  omega)
                by_cases hy0 : ly = 0
                · subst hy0
                  have HLX : Hid (uniL lo x y x = lx) := Lib.hid (by unfold uniL; rw [if_pos rfl, HL0Y.out, HL0X.out, if_neg (by omega)])
                  go_wp2_with fail
                  go_roundg (257 * rootsN n (uniR r x y) + (td1 ++ more).length)
                  case measure => exact HMEAS.out
                  case rel => exact ⟨tv5, l7, td1 ++ more, _, _, _, rfl, rfl, HEND.out _ l7 (by rw [HL7.out]; exact HXY.out.1) HM7.out rfl (fun _ _ _ _ => rfl) (by rw [HX7.out, HLX.out, ← HLOX.out])⟩
                · have hyp : (0 : Int) < ly := by omega
                  by_cases hst : lx = 0 ∨ ly < lx
                  · have HLX : Hid (uniL lo x y x = ly) := Lib.hid (by unfold uniL; rw [if_pos rfl, HL0Y.out, HL0X.out, if_pos ⟨by omega, hst⟩])
                    have hb : (((lx : Int) == 0) = true) ∨ ((((lx : Int) == 0) = false) ∧ (ly : Int) < lx) := by
                      rcases Nat.eq_zero_or_pos lx with e | e
                      · exact .inl (by rw [e]; rfl)
                      · exact .inr ⟨beq_eq_false_iff_ne.2 (by omega), by omega⟩
                    clear hst
                    rcases hb with hb | ⟨hb, hb2⟩
                    all_goals
                      go_wp2_with fail
                      go_roundg (257 * rootsN n (uniR r x y) + (td1 ++ more).length)
                      case measure => exact HMEAS.out
                      case rel =>
                        refine ⟨tv5, l7.set x { l4[x]'(by rw [HLN4.out]; exact HXY.out.1) with term := (s : Int), low := ly }, td1 ++ more, _, _, _, rfl, rfl, HEND.out _ _ (by rw [List.length_set, HL7.out]; exact HXY.out.1) (HM7.out.node (by rw [HL7.out]; exact HXY.out.1) (k := 6) (by omega) (by rw [HX7.out]; rfl) (by rw [HX7.out]; exact ⟨rfl, rfl⟩)) (by rw [List.length_set]) (fun i _ _ e => by rw [List.getElem_set_ne (Ne.symm e)]) (by rw [List.getElem_set_self, HLX.out])⟩
                  · have HLX : Hid (uniL lo x y x = lx) := Lib.hid (by unfold uniL; rw [if_pos rfl, HL0Y.out, HL0X.out, if_neg (fun e => hst e.2)])
                    have hb : ((lx : Int) == 0) = false := beq_eq_false_iff_ne.2 (by omega)
                    have hb2 : ¬ (ly : Int) < lx := by omega
                    clear hst
                    go_wp2_with fail
                    go_roundg (257 * rootsN n (uniR r x y) + (td1 ++ more).length)
                    case measure => exact HMEAS.out
                    case rel => exact ⟨tv5, l7, td1 ++ more, _, _, _, rfl, rfl, HEND.out _ l7 (by rw [HL7.out]; exact HXY.out.1) HM7.out rfl (fun _ _ _ _ => rfl) (by rw [HX7.out, HLX.out, ← HLOX.out])⟩
          | none =>
            have hTY : True := trivial
            as_aux_lemma =>
              have hsI2 : sI = -1 := by rw [← HSE.out, hTX]; rfl
              subst hsI2
              have HTX : Hid (tmV (uniT tm x y x) = tI) := Lib.hid (by unfold uniT; rw [if_pos rfl, hTX]; exact HTYE.out)
              obtain ⟨more, hmore⟩ : ∃ z : List (Nat × Nat), [] = z := ⟨_, rfl⟩
              have HMORE : Hid (more.length ≤ 256) := Lib.hid (by rw [← hmore]; simp)
              have HU5 : Hid (USt W (uniR r x y) (uniT tm x y) (uniL lo x y) (td1 ++ more) E) := Lib.hid (HI.out.ust.unite HRX.out HRY.out HXY2.out (fun s' t' h1 h2 => by rw [hTX] at h1; cases h1) (fun _ => hmore.symm))
              obtain ⟨tv5, htv5⟩ : ∃ z, (Value.slice (some ⟨g2, 0, none⟩) m c2) = z := ⟨_, rfl⟩
              have HM5 : Hid (MeetM w B p mb (.slice (some ⟨g, 0, none⟩) n c) tv0 hm w5 tv5 l4 (td1 ++ more)) := Lib.hid (by rw [← hmore, ← htv5, List.append_nil]; exact HM5.out)
              clear hmore htv5 hTX hTY
              go_upto_region 16 with fail
              obtain ⟨l6, hl6⟩ : ∃ q, l4.set y { l4[y]'(by rw [HLN4.out]; exact HXY.out.2) with up := x } = q := ⟨_, rfl⟩
              have hm6 : MeetM w B p mb (.slice (some ⟨g, 0, none⟩) n c) tv0 hm (w5.setCell ⟨g, y * 9 + 4, none⟩ (.int .i64 x)) tv5 l6 (td1 ++ more) := by
                rw [← hl6]
                exact HM5.out.node (by rw [HLN4.out]; exact HXY.out.2) (k := 4) (by omega) rfl ⟨rfl, rfl⟩
              have HL6 : Hid (l6.length = n) := Lib.hid (by rw [← hl6, List.length_set]; exact HLN4.out)
              have HL6E := Lib.hid hl6
              clear hl6
              have p0 := HM5.out.web.blk.cell 0
              have cy := (HM5.out.web.nodes.rd (i := y) (by rw [HLN4.out]; exact HXY.out.2) (k := 4) (by omega))
              obtain ⟨cy4, cy4f⟩ := cy
              obtain ⟨zy, cy4⟩ : ∃ z, w5.cell? ⟨g, y * 9 + 4, none⟩ = some z := ⟨_, cy4⟩
              simp at p0
              go_upto_region 17 with fail
              obtain ⟨w6, hw6⟩ : ∃ q, w5.setCell ⟨g, y * 9 + 4, none⟩ (.int .i64 x) = q := ⟨_, rfl⟩
              rw [hw6] at hm6
              have HM6 := Lib.hid hm6
              (try rw [hw6])
              clear hw6 hm6 p0 cy4 cy4f HM5
              have p0 := HM6.out.web.blk.cell 0
              simp at p0
              have cx := (HM6.out.web.nodes.rd (i := x) (by rw [HL6.out]; exact HXY.out.1) (k := 5) (by omega))
              obtain ⟨cx5, cx5f⟩ := cx
              obtain ⟨zx, cx5⟩ : ∃ z, w6.cell? ⟨g, x * 9 + 5, none⟩ = some z := ⟨_, cx5⟩
              go_upto_region 19 with fail
              have hx6 : l6[x]'(by rw [HL6.out]; exact HXY.out.1) = l4[x]'(by rw [HLN4.out]; exact HXY.out.1) := by simp only [← HL6E.out]; rw [List.getElem_set_ne (Ne.symm HXY2.out)]
              obtain ⟨l7, hl7⟩ : ∃ q, l6.set x { l4[x]'(by rw [HLN4.out]; exact HXY.out.1) with term := tI } = q := ⟨_, rfl⟩
              obtain ⟨w7, hw7⟩ : ∃ q, w6.setCell ⟨g, x * 9 + 5, none⟩ (.int .i64 tI) = q := ⟨_, rfl⟩
              have HM7 : Hid (MeetM w B p mb (.slice (some ⟨g, 0, none⟩) n c) tv0 hm w7 tv5 l7 (td1 ++ more)) := Lib.hid (by
                rw [← hl7, ← hw7]
                exact HM6.out.node (by rw [HL6.out]; exact HXY.out.1) (k := 5) (by omega) (by rw [hx6]; rfl) (by rw [hx6]; exact ⟨rfl, rfl⟩))
              (try rw [hw7])
              have HL7E := Lib.hid hl7
              clear hw7 p0 cx5 cx5f HM6 hx6 hl7
              have HL7 : Hid (l7.length = n) := Lib.hid (by rw [← HL7E.out]; rw [List.length_set]; exact HL6.out)
              have hy7 : l7[y]'(by rw [HL7.out]; exact HXY.out.2) = { l4[y]'(by rw [HLN4.out]; exact HXY.out.2) with up := x } := by
                simp only [← HL7E.out, ← HL6E.out]
                rw [List.getElem_set_ne HXY2.out]; rw [List.getElem_set_self]
              have hx7 : l7[x]'(by rw [HL7.out]; exact HXY.out.1) = { l4[x]'(by rw [HLN4.out]; exact HXY.out.1) with term := tI } := by
                simp only [← HL7E.out]
                rw [List.getElem_set_self]
              have ho7 : ∀ i (h : i < l4.length) (h' : i < l7.length), i ≠ x → i ≠ y → l7[i] = l4[i] := fun i h h' e1 e2 => by
                simp only [← HL7E.out, ← HL6E.out]
                rw [List.getElem_set_ne (Ne.symm e1)]; rw [List.getElem_set_ne (Ne.symm e2)]
              have HY7 := Lib.hid hy7; have HX7 := Lib.hid hx7; have HO7 := Lib.hid ho7
              have p0 := HM7.out.web.blk.cell 0
              have cy6 := (HM7.out.web.nodes.rd (i := y) (by rw [HL7.out]; exact HXY.out.2) (k := 6) (by omega)).1
              have cx6 := (HM7.out.web.nodes.rd (i := x) (by rw [HL7.out]; exact HXY.out.1) (k := 6) (by omega)).1
              have cx6f := (HM7.out.web.nodes.rd (i := x) (by rw [HL7.out]; exact HXY.out.1) (k := 6) (by omega)).2
              rw [hy7] at cy6
              rw [hx7] at cx6
              simp only [PN.cells, List.getElem?_cons_succ, List.getElem?_cons_zero, HLOY.out, HLOX.out] at cx6 cy6
              simp at p0
              clear hy7 hx7 ho7
              have HEND : Hid (∀ (wz : World) (lz : List PN) (h : x < lz.length), MeetM w B p mb (.slice (some ⟨g, 0, none⟩) n c) tv0 hm wz tv5 lz (td1 ++ more) → lz.length = l7.length → (∀ i (h : i < l7.length) (h' : i < lz.length), i ≠ x → lz[i] = l7[i]) → lz[x] = { l4[x]'(by rw [HLN4.out]; exact HXY.out.1) with term := tI, low := uniL lo x y x } → MeetI w B p mb (.slice (some ⟨g, 0, none⟩) n c) tv0 hm W E r0 n a b wz tv5 lz (td1 ++ more) (uniR r x y) (uniT tm x y) (uniL lo x y)) := Lib.hid (fun wz lz hxl hmz hlz hoz hxz => by
                have hl4 := HLN4.out
                have h7 := HL7.out
                have hz4 : lz.length = l4.length := by omega
                refine ⟨hmz, ?_, HU5.out, fun i j h => rel_unite HRX.out HRY.out (HI.out.rel i j h), ?_, ?_, by omega⟩
                · refine HPW4.out.unite (by rw [hl4]; exact HXY.out.1) (by rw [hl4]; exact HXY.out.2) HRR.out.1 HRR.out.2 HXY2.out hz4 (fun h' => ?_) (fun h' => ?_) (fun i hi h' e1 e2 => ?_)
                  · rw [hoz y (by rw [h7]; exact HXY.out.2) h' (Ne.symm HXY2.out)]; exact HY7.out
                  · rw [hxz, HTX.out]
                  · rw [hoz i (by omega) h' e1]; exact HO7.out i hi (by omega) e1 e2
                · have h1 := HI.out.few
                  have h2 := rootsN_uni (n := n) HXY.out.2 HRR.out.1 HRR.out.2 HXY2.out
                  have h3 := HMORE.out
                  simp only [List.length_append, List.length_cons, List.length_nil] at h1 ⊢
                  omega
                · intro z hz
                  obtain ⟨i, hi, rfl⟩ := List.getElem_of_mem hz
                  have ha := nok_ups HS4.out HI.out.args
                  by_cases e1 : i = x
                  · subst e1; rw [hxz]; exact ha (l4[i]'(by omega)) (List.getElem_mem _)
                  · rw [hoz i (by omega) hi e1]
                    by_cases e2 : i = y
                    · subst e2; rw [HY7.out]; exact ha (l4[i]'(by omega)) (List.getElem_mem _)
                    · rw [HO7.out i (by omega) (by omega) e1 e2]; exact ha _ (List.getElem_mem _))
              have HMEAS : Hid (257 * rootsN n (uniR r x y) + (td1 ++ more).length < 257 * rootsN n r + (td1.length + 1)) := Lib.hid (by
                have h2 := rootsN_uni (n := n) HXY.out.2 HRR.out.1 HRR.out.2 HXY2.out
                have h3 := HMORE.out
                simp only [List.length_append]
                omega)
              by_cases hy0 : ly = 0
              · subst hy0
                have HLX : Hid (uniL lo x y x = lx) := Lib.hid (by unfold uniL; rw [if_pos rfl, HL0Y.out, HL0X.out, if_neg (by omega)])
                go_wp2_with fail
                go_roundg (257 * rootsN n (uniR r x y) + (td1 ++ more).length)
                case measure => exact HMEAS.out
                case rel => exact ⟨tv5, l7, td1 ++ more, _, _, _, rfl, rfl, HEND.out _ l7 (by rw [HL7.out]; exact HXY.out.1) HM7.out rfl (fun _ _ _ _ => rfl) (by rw [HX7.out, HLX.out, ← HLOX.out])⟩
              · have hyp : (0 : Int) < ly := by omega
                by_cases hst : lx = 0 ∨ ly < lx
                · have HLX : Hid (uniL lo x y x = ly) := Lib.hid (by unfold uniL; rw [if_pos rfl, HL0Y.out, HL0X.out, if_pos ⟨by omega, hst⟩])
                  have hb : (((lx : Int) == 0) = true) ∨ ((((lx : Int) == 0) = false) ∧ (ly : Int) < lx) := by
                    rcases Nat.eq_zero_or_pos lx with e | e
                    · exact .inl (by rw [e]; rfl)
                    · exact .inr ⟨beq_eq_false_iff_ne.2 (by omega), by omega⟩
                  clear hst
                  rcases hb with hb | ⟨hb, hb2⟩
                  all_goals
                    go_wp2_with fail
                    go_roundg (257 * rootsN n (uniR r x y) + (td1 ++ more).length)
                    case measure => exact HMEAS.out
                    case rel =>
                      refine ⟨tv5, l7.set x { l4[x]'(by rw [HLN4.out]; exact HXY.out.1) with term := tI, low := ly }, td1 ++ more, _, _, _, rfl, rfl, HEND.out _ _ (by rw [List.length_set, HL7.out]; exact HXY.out.1) (HM7.out.node (by rw [HL7.out]; exact HXY.out.1) (k := 6) (by omega) (by rw [HX7.out]; rfl) (by rw [HX7.out]; exact ⟨rfl, rfl⟩)) (by rw [List.length_set]) (fun i _ _ e => by rw [List.getElem_set_ne (Ne.symm e)]) (by rw [List.getElem_set_self, HLX.out])⟩
                · have HLX : Hid (uniL lo x y x = lx) := Lib.hid (by unfold uniL; rw [if_pos rfl, HL0Y.out, HL0X.out, if_neg (fun e => hst e.2)])
                  have hb : ((lx : Int) == 0) = false := beq_eq_false_iff_ne.2 (by omega)
                  have hb2 : ¬ (ly : Int) < lx := by omega
                  clear hst
                  go_wp2_with fail
                  go_roundg (257 * rootsN n (uniR r x y) + (td1 ++ more).length)
                  case measure => exact HMEAS.out
                  case rel => exact ⟨tv5, l7, td1 ++ more, _, _, _, rfl, rfl, HEND.out _ l7 (by rw [HL7.out]; exact HXY.out.1) HM7.out rfl (fun _ _ _ _ => rfl) (by rw [HX7.out, HLX.out, ← HLOX.out])⟩
end Go.Proofs.YtgcbnndbeoekgaaDoor
