/- the document's web.lay: a term's nodes more -/
import Derived.Test.YtgcbnndbeoekgaaRLayM
import Derived.IntWalk
set_option linter.unusedSimpArgs false
set_option linter.unusedVariables false
namespace Go.Proofs.Ytgcbnndbeoekgaa
open Go Go.RowKit Go.Maps

theorem layC_next (cl : List Nat) (m i : Nat) : layC cl m (i + 1) = layC cl m i ++ [m + i] := by
  unfold layC
  rw [List.range'_1_concat, List.append_assoc]
theorem layC_len (cl : List Nat) (m i : Nat) : (layC cl m i).length = cl.length + i := by unfold layC; simp
theorem step_pushA {P : Program} {eN eI : TypeId} (w : World) (hne : eN ≠ eI) {ops : Array Oper} {o : Oper} {a : Act} {K : Act → World → Prop} {Q : Exit → Act → World → Prop} {E : Prop} (hgd : o.guard = none) (s x : Operand) (t : TypeId)
    (ho : o.op = .call { callee := .builtin .append, args := #[s, x], argTypes := #[t, t] })
    (base : Nat) {z : Value} {bytes : Nat} (ht : P.underlying t = some (.slice eN)) (hinfo : (P.info? eN).map (fun i => (i.zero, i.size, i.bytes)) = some (some z, 3, bytes)) (hzs : z.cells.size = 3)
    (v : Value) (ts : List TN) (X Y : Nat → Prop) (hs : a.eval s = v) (hown : OwnX eN eI w base v ts X)
    (y : TN) (av : Value) (ha : w.ownsRow base eI 1 av y.args.length (y.args.map (.int .i64))) (hX : ∀ b, av.ownBlock = some b → X b) (hY : ∀ b, Y b → X b ∧ av.ownBlock ≠ some b)
    (ad : Addr) (c : Nat) (hx : a.eval x = .slice (some ad) 1 c) (hcs : ∀ j u, (nodeCells y av)[j]? = some u → w.cell? (ad.add j) = some u)
    (h63 : ts.length + 1 ≤ maxLen) (hbytes : (ts.length + 1) * bytes ≤ 140737488355328) (hbase : base ≤ w.heap.size)
    (h : ∀ A' c' w', OwnX eN eI w' base (.slice A' (ts.length + 1) c') (ts ++ [y]) Y → w.grownBy w' v.ownBlock → ((Value.slice A' (ts.length + 1) c').ownBlock = v.ownBlock ∨ (Value.slice A' (ts.length + 1) c').ownBlock = some w.heap.size) → K (a.put o.dst (.slice A' (ts.length + 1) c')) w') :
    if Region.wanted o (yielded ops a.tmps) = true then Oper.wp P o a w K Q else E := by
  rw [if_pos (by simp [Region.wanted, hgd])]
  exact wp_pushA w hne s x t ho base ht hinfo hzs v ts X Y hs hown y av ha hX hY ad c hx hcs h63 hbytes hbase h
theorem tnode_info15 : (Try.prog.info? 66).map (fun i => (i.zero, i.size, i.bytes)) = some (some (.agg #[.int .i64 0, .string ⟨#[]⟩, .slice none 0 0]), 3, 48) := by kernel_rfl
/-- what lay leaves -/
def SomeLaid (w : World) (B p : Nat) (nv0 cv0 : Value) (ns0 : List TN) (cl0 : List Nat) (l : List TN) (e : Ending) (w' : World) : Prop :=
  e = .returned (.int .i64 (ns0.length : Nat)) ∧ ∃ nv cv, RM w' B p nv cv (ns0 ++ l.map (shiftT ns0.length)) (layC cl0 ns0.length l.length) ∧ Kb (Wr p nv0 cv0) w w' ∧ (∀ b, nv.ownBlock = some b → nv0.ownBlock = some b ∨ w.heap.size ≤ b) ∧ ∀ b, cv.ownBlock = some b → cv0.ownBlock = some b ∨ w.heap.size ≤ b

set_option maxRecDepth 100000 in
set_option maxHeartbeats 16000000 in
theorem rlay_any (w : World) (B p : Nat) (nv0 cv0 : Value) (ns0 : List TN) (cl0 : List Nat) (A : Option Addr) (c : Nat) (l : List TN) (F : Nat → Prop) (hF : ∀ b, F b → b < w.heap.size ∧ ¬ Wr p nv0 cv0 b) (hr : RowOf 3 ETN w F A l) (hlc : l.length ≤ c) (hc : c ≤ maxLen) (hB : B ≤ w.heap.size) (h : RM w B p nv0 cv0 ns0 cl0) (hcl : cl0.length = ns0.length)
    (hl : 0 < l.length ∧ l.length ≤ 256) (hlen : ns0.length ≤ 1048576) (hargs : ∀ t ∈ l, t.args.length ≤ 256 ∧ ∀ a ∈ t.args, 0 ≤ a ∧ a < (l.length : Int)) (hvar : ∀ t ∈ l, 0 ≤ t.var) :
    Calls Try.prog 35 #[.pointer (some ⟨p, 0, none⟩), .agg #[.slice A l.length c]] w (SomeLaid w B p nv0 cv0 ns0 cl0 l) := by
  obtain ⟨b0, off, rfl, hb0⟩ := hr.1 (by intro e; rw [e] at hl; simp at hl)
  have HR := Lib.hid hr; have HFF := Lib.hid hF; have HRM := Lib.hid h; have HCL := Lib.hid hcl; have HAR := Lib.hid hargs; have HVR := Lib.hid hvar; have HBW := Lib.hid hB
  have hl1 := hl.1; have hl2 := hl.2
  unfold maxLen at hc
  obtain ⟨n, hn⟩ : ∃ n, l.length = n := ⟨_, rfl⟩
  obtain ⟨m0, hm0⟩ : ∃ n, ns0.length = n := ⟨_, rfl⟩
  have HN := Lib.hid hn; have HM := Lib.hid hm0
  have HS0 : Hid (LayB w B p w.heap.size nv0 cv0 (.slice (some ⟨b0, off, none⟩) n c) (w.alloc (.cells #[.slice (some ⟨b0, off, none⟩) n c] 24)) nv0 cv0 (ns0 ++ (l.take 0).map (shiftT m0)) (layC cl0 m0 0)) := Lib.hid (by
    have := LayB.start (xv := .slice (some ⟨b0, off, none⟩) n c) h
    unfold layC
    simpa using this)
  rw [hn] at hlc hl1 hl2 HAR
  rw [hm0] at hlen
  rw [hn]
  have p0 : ∃ An nn cn, nv0 = .slice An nn cn ∧ nn = m0 := by
    obtain ⟨Av, cv, e⟩ := h.nodes.shape
    exact ⟨Av, _, cv, e, hm0⟩
  obtain ⟨An0, nn0, cn0, hnv0, hnn0⟩ := p0
  rw [hnn0] at hnv0
  clear hnn0 nn0
  have p0 := h.blk.cell 0
  simp at p0
  rw [hnv0] at p0
  have hpl := h.blk.lt
  clear h hr hF hcl hargs hvar hl hn hm0 hB hnv0
  go_enter Try.func35, Try.ntmps35
  go_upto_region 3 with fail
  clear p0 hpl
  go_loopg [6] n (fun g s6 wx => ∃ (i : Nat) (nv cv : Value), s6 = .int .i64 i ∧ g = n - i ∧ i ≤ n ∧ LayB w B p w.heap.size nv0 cv0 (.slice (some ⟨b0, off, none⟩) n c) wx nv cv (ns0 ++ (l.take i).map (shiftT m0)) (layC cl0 m0 i))
  case atStart => exact ⟨0, _, _, rfl, rfl, Nat.zero_le _, HS0.out⟩
  case round =>
    clear HS0
    obtain ⟨i, nv, cv, rfl, rfl, hi, hb⟩ := hrel
    have HL0 := Lib.hid hb
    have q0 := hb.box.cell 0
    simp at q0
    have i0 : (0 : Int) ≤ i := by omega
    clear hb
    by_cases hin : i < n
    · have hin' : (i : Int) < n := by omega
      have HIL : Hid (i < l.length) := Lib.hid (by rw [HN.out]; exact hin)
      obtain ⟨b', off', S, k, e, hbF, d0, d1, d2, hk1, hk2, hrow⟩ := nodes_at HR.out HIL.out
      injection e with e
      injection e with e e2 _
      subst e; subst e2
      have HKP : Hid (∀ w', Kb (Wr p nv0 cv0) w w' → Keep F w w') := Lib.hid (fun w' hk => Keep.kb hk HFF.out)
      have HARI := Lib.hid (HAR.out _ (List.getElem_mem HIL.out))
      have hvv := HVR.out _ (List.getElem_mem HIL.out)
      obtain ⟨va, hva⟩ : ∃ v : Nat, (l[i]'HIL.out).var = (v : Int) := ⟨(l[i]'HIL.out).var.toNat, by omega⟩
      obtain ⟨na, hna⟩ : ∃ v, (l[i]'HIL.out).name = v := ⟨_, rfl⟩
      obtain ⟨ma, hma⟩ : ∃ v, (l[i]'HIL.out).args.length = v := ⟨_, rfl⟩
      have HV : Hid ((l[i]'HIL.out).var = (va : Int) ∧ (l[i]'HIL.out).name = na ∧ (l[i]'HIL.out).args.length = ma) := Lib.hid ⟨hva, hna, hma⟩
      rw [hva] at d0
      rw [hna] at d1
      rw [hma] at d2 hk1
      have HD : Hid (∀ w', Kb (Wr p nv0 cv0) w w' → w'.cell? ⟨b0, off + i * 3, none⟩ = some (.int .i64 va) ∧ w'.cell? ⟨b0, off + i * 3 + 1, none⟩ = some (.string na) ∧ w'.cell? ⟨b0, off + i * 3 + 2, none⟩ = some (.slice S ma k)) := Lib.hid (fun w' hk => ⟨(HKP.out w' hk ⟨b0, _, none⟩ hbF).trans d0, (HKP.out w' hk ⟨b0, _, none⟩ hbF).trans d1, (HKP.out w' hk ⟨b0, _, none⟩ hbF).trans d2⟩)
      have HROW := Lib.hid hrow
      have hmal : ma ≤ 256 := by rw [← hma]; exact HARI.out.1
      have HKM : Hid (k ≤ maxLen) := Lib.hid hk2
      have hkk : ma ≤ k ∧ k ≤ 9223372036854775807 := by unfold maxLen at hk2; omega
      have HS5 : Hid (∀ w', Below wr.heap.size wr w' → (fun w' : World => w'.cell? ⟨w.heap.size, 0, none⟩ = some (.slice (some ⟨b0, off, none⟩) n c) ∧ w'.cell? ⟨b0, off + i * 3, none⟩ = some (.int .i64 va) ∧ w'.cell? ⟨b0, off + i * 3 + 1, none⟩ = some (.string na)) w') := Lib.hid (fun w' hb => by
        have hk := HL0.out.kb.trans (Kb.of_below hb (X := fun _ => False) (fun n h1 h2 => by omega)) (fun _ h => h.elim)
        obtain ⟨h1, h2, _⟩ := HD.out w' hk
        have hq := (HL0.out.box.below hb HL0.out.box.lt).cell 0
        simp at hq
        exact ⟨hq, h1, h2⟩)
      clear hvv hva hna hma d0 d1 d2 hk1 hk2 hrow
      go_upto_region 5 with fail
      clear q0
      refine wp_region_Y (S := (fun w' : World => w'.cell? ⟨w.heap.size, 0, none⟩ = some (.slice (some ⟨b0, off, none⟩) n c) ∧ w'.cell? ⟨b0, off + i * 3, none⟩ = some (.int .i64 va) ∧ w'.cell? ⟨b0, off + i * 3 + 1, none⟩ = some (.string na))) 14 (by kernel_rfl) (HS5.out _ (Below.refl _ _).drew) (fun hHeld => ?_)
      refine wpAnyY_take (i := 0) (v := ?_) rfl (by kernel_rfl) (by kernel_rfl) (by kernel_rfl) (by kernel_rfl) (fun _ _ _ h => h) (Or.inl ⟨by rfl, ?_⟩) (by assumption) ?_
      rotate_left 1
      · (intro w' hSw; obtain ⟨s0, s1, s2⟩ := hSw; go_simp); try with_reducible rfl
      try simp only [Act.put, List.setIfInBounds_toArray, List.set_cons_zero, List.set_cons_succ, Nat.zero_add]
      refine wpAnyY_take (i := 1) (v := ?_) rfl (by kernel_rfl) (by kernel_rfl) (by kernel_rfl) (by kernel_rfl) (fun _ _ _ h => h) (Or.inl ⟨by rfl, ?_⟩) (by assumption) ?_
      rotate_left 1
      · (intro w' hSw; obtain ⟨s0, s1, s2⟩ := hSw; go_simp); try with_reducible rfl
      try simp only [Act.put, List.setIfInBounds_toArray, List.set_cons_zero, List.set_cons_succ, Nat.zero_add]
      refine wpAnyY_take (i := 2) (v := ?_) rfl (by kernel_rfl) (by kernel_rfl) (by kernel_rfl) (by kernel_rfl) (fun _ _ _ h => h) (Or.inl ⟨by rfl, ?_⟩) (by assumption) ?_
      rotate_left 1
      · (intro w' hSw; obtain ⟨s0, s1, s2⟩ := hSw; go_simp); try with_reducible rfl
      try simp only [Act.put, List.setIfInBounds_toArray, List.set_cons_zero, List.set_cons_succ, Nat.zero_add]
      refine wpAnyY_take (i := 3) (v := ?_) rfl (by kernel_rfl) (by kernel_rfl) (by kernel_rfl) (by kernel_rfl) (fun _ _ _ h => h) (Or.inl ⟨by rfl, ?_⟩) (by assumption) ?_
      rotate_left 1
      · (intro w' hSw; obtain ⟨s0, s1, s2⟩ := hSw; go_simp); try with_reducible rfl
      try simp only [Act.put, List.setIfInBounds_toArray, List.set_cons_zero, List.set_cons_succ, Nat.zero_add]
      refine wpAnyY_take (i := 4) (v := ?_) rfl (by kernel_rfl) (by kernel_rfl) (by kernel_rfl) (by kernel_rfl) (fun _ _ _ h => h) (Or.inl ⟨by rfl, ?_⟩) (by assumption) ?_
      rotate_left 1
      · (intro w' hSw; obtain ⟨s0, s1, s2⟩ := hSw; go_simp); try with_reducible rfl
      try simp only [Act.put, List.setIfInBounds_toArray, List.set_cons_zero, List.set_cons_succ, Nat.zero_add]
      refine wpAnyY_take (i := 5) (v := ?_) rfl (by kernel_rfl) (by kernel_rfl) (by kernel_rfl) (by kernel_rfl) (fun _ _ _ h => h) (Or.inl ⟨by rfl, ?_⟩) (by assumption) ?_
      rotate_left 1
      · (intro w' hSw; obtain ⟨s0, s1, s2⟩ := hSw; go_simp); try with_reducible rfl
      try simp only [Act.put, List.setIfInBounds_toArray, List.set_cons_zero, List.set_cons_succ, Nat.zero_add]
      refine wpAnyY_take (i := 6) (v := ?_) rfl (by kernel_rfl) (by kernel_rfl) (by kernel_rfl) (by kernel_rfl) (fun _ _ _ h => h) (Or.inl ⟨by rfl, ?_⟩) (by assumption) ?_
      rotate_left 1
      · (intro w' hSw; obtain ⟨s0, s1, s2⟩ := hSw; go_simp); try with_reducible rfl
      try simp only [Act.put, List.setIfInBounds_toArray, List.set_cons_zero, List.set_cons_succ, Nat.zero_add]
      refine wpAnyY_take (i := 7) (v := ?_) rfl (by kernel_rfl) (by kernel_rfl) (by kernel_rfl) (by kernel_rfl) (fun _ _ _ h => h) (Or.inl ⟨by rfl, ?_⟩) (by assumption) ?_
      rotate_left 1
      · (intro w' hSw; obtain ⟨s0, s1, s2⟩ := hSw; go_simp); try with_reducible rfl
      try simp only [Act.put, List.setIfInBounds_toArray, List.set_cons_zero, List.set_cons_succ, Nat.zero_add]
      refine wpAnyY_take (i := 8) (v := ?_) rfl (by kernel_rfl) (by kernel_rfl) (by kernel_rfl) (by kernel_rfl) (fun _ _ _ h => h) (Or.inl ⟨by rfl, ?_⟩) (by assumption) ?_
      rotate_left 1
      · (intro w' hSw; obtain ⟨s0, s1, s2⟩ := hSw; go_simp); try with_reducible rfl
      try simp only [Act.put, List.setIfInBounds_toArray, List.set_cons_zero, List.set_cons_succ, Nat.zero_add]
      refine wpAnyY_take (i := 9) (v := ?_) rfl (by kernel_rfl) (by kernel_rfl) (by kernel_rfl) (by kernel_rfl) (fun _ _ _ h => h) (Or.inl ⟨by rfl, ?_⟩) (by assumption) ?_
      rotate_left 1
      · (intro w' hSw; obtain ⟨s0, s1, s2⟩ := hSw; go_simp); try with_reducible rfl
      try simp only [Act.put, List.setIfInBounds_toArray, List.set_cons_zero, List.set_cons_succ, Nat.zero_add]
      refine wpAnyY_take (i := 10) (v := ?_) rfl (by kernel_rfl) (by kernel_rfl) (by kernel_rfl) (by kernel_rfl) (fun _ _ _ h => h) (Or.inl ⟨by rfl, ?_⟩) (by assumption) ?_
      rotate_left 1
      · (intro w' hSw; obtain ⟨s0, s1, s2⟩ := hSw; go_simp); try with_reducible rfl
      try simp only [Act.put, List.setIfInBounds_toArray, List.set_cons_zero, List.set_cons_succ, Nat.zero_add]
      refine wpAnyY_take (i := 11) (v := ?_) rfl (by kernel_rfl) (by kernel_rfl) (by kernel_rfl) (by kernel_rfl) (fun _ _ _ h => h) (Or.inl ⟨by rfl, ?_⟩) (by assumption) ?_
      rotate_left 1
      · (intro w' hSw; obtain ⟨s0, s1, s2⟩ := hSw; go_simp); try with_reducible rfl
      try simp only [Act.put, List.setIfInBounds_toArray, List.set_cons_zero, List.set_cons_succ, Nat.zero_add]
      refine wpAnyY_take (i := 12) (v := ?_) rfl (by kernel_rfl) (by kernel_rfl) (by kernel_rfl) (by kernel_rfl) (fun _ _ _ h => h) (Or.inl ⟨by rfl, ?_⟩) (by assumption) ?_
      rotate_left 1
      · (intro w' hSw; obtain ⟨s0, s1, s2⟩ := hSw; go_simp); try with_reducible rfl
      try simp only [Act.put, List.setIfInBounds_toArray, List.set_cons_zero, List.set_cons_succ, Nat.zero_add]
      refine wpAnyY_one (i := 13) rfl (by kernel_rfl) (fun K hK => ?_)
      go_simp
      obtain ⟨qt, hqt⟩ : ∃ z, wr.heap.size = z := ⟨_, rfl⟩
      obtain ⟨u1, hu1⟩ : ∃ z : World, (wr.alloc (.cells #[.int .i64 0, .string ⟨#[]⟩, .slice none 0 0] 66)).drew = z := ⟨_, rfl⟩
      have HB1 : Hid (Below wr.heap.size wr u1) := Lib.hid (by rw [← hu1]; exact ((Below.refl _ _).alloc (Nat.le_refl _) _).drew)
      have HT1 : Hid (Blk u1 qt 66 #[.int .i64 0, .string ⟨#[]⟩, .slice none 0 0]) := Lib.hid (by rw [← hu1]; exact (Blk.new' hqt.symm).drew)
      have HQT := Lib.hid hqt
      (try rw [hqt])
      (try rw [hu1])
      clear hqt hu1
      refine hK.out _ _ (fun _ => HS5.out _ HB1.out) ?_
      clear hK K
      try simp only [Act.put, List.setIfInBounds_toArray, List.set_cons_zero, List.set_cons_succ, Nat.zero_add]
      refine wpAnyY_one0 (i := 14) rfl (by kernel_rfl) (by kernel_rfl) (fun K hK => ?_)
      have x0 := HT1.out.cell 0; have x1 := HT1.out.cell 1; have x2 := HT1.out.cell 2; have f0 := HT1.out.frozen 0; have f1 := HT1.out.frozen 1; have f2 := HT1.out.frozen 2; have hlq := HT1.out.lt
      simp at x0 x1 x2
      go_simp
      obtain ⟨u2, hu2⟩ : ∃ z : World, ((u1.setCell ⟨qt, 0, none⟩ (.int .i64 va)).setCell ⟨qt, 1, none⟩ (.string na)).setCell ⟨qt, 2, none⟩ (.slice none 0 0) = z := ⟨_, rfl⟩
      have HB2 : Hid (Below wr.heap.size wr u2) := Lib.hid (by
        have hq := HQT.out
        rw [← hu2]
        exact ((HB1.out.setCell (p := ⟨qt, 0, none⟩) (by show wr.heap.size ≤ qt; omega) _).setCell (p := ⟨qt, 1, none⟩) (by show wr.heap.size ≤ qt; omega) _).setCell (p := ⟨qt, 2, none⟩) (by show wr.heap.size ≤ qt; omega) _)
      have HT2 : Hid (Blk u2 qt 66 #[.int .i64 va, .string na, .slice none 0 0]) := Lib.hid (by rw [← hu2]; simpa using ((HT1.out.set_ 0 (.int .i64 va)).set_ 1 (.string na)).set_ 2 (.slice none 0 0))
      (try rw [hu2])
      clear hu2 x0 x1 x2 f0 f1 f2 hlq HT1 HB1
      refine hK.out _ _ ?_
      clear hK K
      try simp only [Act.put, List.setIfInBounds_toArray, List.set_cons_zero, List.set_cons_succ, Nat.zero_add]
      refine wpAnyY_done (by kernel_rfl) ?_ _
      clear hHeld
      have HL2 : Hid (LayR w B p w.heap.size qt nv0 cv0 (.slice (some ⟨b0, off, none⟩) n c) u2 nv cv (.slice none 0 0) (ns0 ++ (l.take i).map (shiftT m0)) (layC cl0 m0 i) ⟨(va : Int), na, ((l[i]'HIL.out).args.take 0).map fun a => (m0 : Int) + a⟩) := Lib.hid (HL0.out.node (by rw [← HQT.out]; exact Nat.le_refl _) HB2.out HT2.out rfl)
      clear HL0 HB2 HT2 HQT HS5
      go_upto_region 7 with fail
      obtain ⟨wo, hwo⟩ : ∃ x, x = wr := ⟨_, rfl⟩
      subst hwo
      go_loopg [8] ma (fun g s8 wx => ∃ (j : Nat) (Aa : Option Addr) (ca : Nat), s8 = .int .i64 j ∧ g = ma - j ∧ j ≤ ma ∧ LayR w B p w.heap.size qt nv0 cv0 (.slice (some ⟨b0, off, none⟩) n c) wx nv cv (.slice Aa j ca) (ns0 ++ (l.take i).map (shiftT m0)) (layC cl0 m0 i) ⟨(va : Int), na, ((l[i]'HIL.out).args.take j).map fun a => (m0 : Int) + a⟩)
      case atStart => exact ⟨0, none, 0, rfl, rfl, Nat.zero_le _, HL2.out⟩
      case round =>
        clear HL2
        obtain ⟨j, Aa, ca, rfl, rfl, hj, hlr⟩ := hrel
        have HL := Lib.hid hlr
        have q0 := hlr.box.cell 0
        simp at q0
        obtain ⟨_, _, d2⟩ := HD.out _ hlr.kb
        have hqt2 := hlr.tb.cell 2
        simp at hqt2
        have j0 : (0 : Int) ≤ j := by omega
        clear hlr
        by_cases hjm : j < ma
        · have hjm' : (j : Int) < ma := by omega
          have HJA : Hid (j < (l[i]'HIL.out).args.length) := Lib.hid (by rw [HV.out.2.2]; exact hjm)
          obtain ⟨bs, os, e, hbs, e0⟩ := ints_at HROW.out HJA.out
          have hzz := HARI.out.2 _ (List.getElem_mem HJA.out)
          obtain ⟨z, hz⟩ : ∃ z : Nat, (l[i]'HIL.out).args[j]'HJA.out = (z : Int) := ⟨((l[i]'HIL.out).args[j]'HJA.out).toNat, by omega⟩
          have HZ := Lib.hid hz
          have hz256 : z < 256 := by omega
          have hwr : IntKind.i64.wrap ((m0 : Int) + z) = (m0 : Int) + z := by rw [IntWalk.i64_in _ ⟨by omega, by omega⟩]
          rw [hz] at e0
          subst e
          have HTL : Hid ((((l[i]'HIL.out).args.take j).map fun a => (m0 : Int) + a).length = j) := Lib.hid (by rw [List.length_map, List.length_take]; have := HJA.out; omega)
          have HE0 : Hid (∀ w', Kb (Wr p nv0 cv0) w w' → w'.cell? ⟨bs, os + j, none⟩ = some (.int .i64 z)) := Lib.hid (fun w' hk => (HKP.out w' hk ⟨bs, _, none⟩ hbs).trans e0)
          have HS9 : Hid (∀ w' t', LayR w B p w.heap.size qt nv0 cv0 (.slice (some ⟨b0, off, none⟩) n c) w' nv cv (.slice Aa j ca) (ns0 ++ (l.take i).map (shiftT m0)) (layC cl0 m0 i) t' → (fun w' : World => w'.cell? ⟨qt, 2, none⟩ = some (.slice Aa j ca) ∧ w'.cell? ⟨w.heap.size, 0, none⟩ = some (.slice (some ⟨b0, off, none⟩) n c) ∧ w'.cell? ⟨b0, off + i * 3 + 2, none⟩ = some (.slice (some ⟨bs, os, none⟩) ma k) ∧ w'.cell? ⟨bs, os + j, none⟩ = some (.int .i64 z)) w') := Lib.hid (fun w' t' h => by
            have h2 := h.tb.cell 2; have hq := h.box.cell 0
            simp at h2 hq
            exact ⟨h2, hq, (HD.out w' h.kb).2.2, HE0.out w' h.kb⟩)
          have HSG : Hid (∀ u1 t', LayR w B p w.heap.size qt nv0 cv0 (.slice (some ⟨b0, off, none⟩) n c) u1 nv cv (.slice Aa j ca) (ns0 ++ (l.take i).map (shiftT m0)) (layC cl0 m0 i) t' → ∀ {w7 : World}, u1.grownBy w7 (Value.slice Aa j ca).ownBlock → (fun w' : World => w'.cell? ⟨qt, 2, none⟩ = some (.slice Aa j ca) ∧ w'.cell? ⟨w.heap.size, 0, none⟩ = some (.slice (some ⟨b0, off, none⟩) n c) ∧ w'.cell? ⟨b0, off + i * 3 + 2, none⟩ = some (.slice (some ⟨bs, os, none⟩) ma k) ∧ w'.cell? ⟨bs, os + j, none⟩ = some (.int .i64 z)) w7) := Lib.hid (fun u1 t' h w7 hg => by
            have hk : Kb (Wr p nv0 cv0) w w7 := h.kb.grown hg (fun n e => .inr (h.avb n e).1)
            have h2 := (h.tb.grown hg (fun e => own_ne_blkX h.args h.tb (by decide) e.symm)).cell 2
            have hq := (h.box.grown hg (fun e => own_ne_blkX h.args h.box (by decide) e.symm)).cell 0
            simp at h2 hq
            exact ⟨h2, hq, (HD.out w7 hk).2.2, HE0.out w7 hk⟩)
          clear hz hzz e0 hbs
          go_upto_region 9 with fail
          clear q0 d2 hqt2
          refine wp_region_Y (S := (fun w' : World => w'.cell? ⟨qt, 2, none⟩ = some (.slice Aa j ca) ∧ w'.cell? ⟨w.heap.size, 0, none⟩ = some (.slice (some ⟨b0, off, none⟩) n c) ∧ w'.cell? ⟨b0, off + i * 3 + 2, none⟩ = some (.slice (some ⟨bs, os, none⟩) ma k) ∧ w'.cell? ⟨bs, os + j, none⟩ = some (.int .i64 z))) 16 (by kernel_rfl) (HS9.out _ _ (HL.out.drewN 1)) (fun hHeld => ?_)
          refine wpAnyY_take (i := 0) (v := ?_) rfl (by kernel_rfl) (by kernel_rfl) (by kernel_rfl) (by kernel_rfl) (fun _ _ _ h => h) (Or.inl ⟨by rfl, ?_⟩) (by assumption) ?_
          rotate_left 1
          · (intro w' hSw; obtain ⟨s0, s1, s2, s3⟩ := hSw; go_simp); try with_reducible rfl
          try simp only [Act.put, List.setIfInBounds_toArray, List.set_cons_zero, List.set_cons_succ, Nat.zero_add]
          refine wpAnyY_take (i := 1) (v := ?_) rfl (by kernel_rfl) (by kernel_rfl) (by kernel_rfl) (by kernel_rfl) (fun _ _ _ h => h) (Or.inl ⟨by rfl, ?_⟩) (by assumption) ?_
          rotate_left 1
          · (intro w' hSw; obtain ⟨s0, s1, s2, s3⟩ := hSw; go_simp); try with_reducible rfl
          try simp only [Act.put, List.setIfInBounds_toArray, List.set_cons_zero, List.set_cons_succ, Nat.zero_add]
          refine wpAnyY_take (i := 2) (v := ?_) rfl (by kernel_rfl) (by kernel_rfl) (by kernel_rfl) (by kernel_rfl) (fun _ _ _ h => h) (Or.inl ⟨by rfl, ?_⟩) (by assumption) ?_
          rotate_left 1
          · (intro w' hSw; obtain ⟨s0, s1, s2, s3⟩ := hSw; go_simp); try with_reducible rfl
          try simp only [Act.put, List.setIfInBounds_toArray, List.set_cons_zero, List.set_cons_succ, Nat.zero_add]
          refine wpAnyY_take (i := 3) (v := ?_) rfl (by kernel_rfl) (by kernel_rfl) (by kernel_rfl) (by kernel_rfl) (fun _ _ _ h => h) (Or.inl ⟨by rfl, ?_⟩) (by assumption) ?_
          rotate_left 1
          · (intro w' hSw; obtain ⟨s0, s1, s2, s3⟩ := hSw; go_simp); try with_reducible rfl
          try simp only [Act.put, List.setIfInBounds_toArray, List.set_cons_zero, List.set_cons_succ, Nat.zero_add]
          refine wpAnyY_take (i := 4) (v := ?_) rfl (by kernel_rfl) (by kernel_rfl) (by kernel_rfl) (by kernel_rfl) (fun _ _ _ h => h) (Or.inl ⟨by rfl, ?_⟩) (by assumption) ?_
          rotate_left 1
          · (intro w' hSw; obtain ⟨s0, s1, s2, s3⟩ := hSw; go_simp); try with_reducible rfl
          try simp only [Act.put, List.setIfInBounds_toArray, List.set_cons_zero, List.set_cons_succ, Nat.zero_add]
          refine wpAnyY_take (i := 5) (v := ?_) rfl (by kernel_rfl) (by kernel_rfl) (by kernel_rfl) (by kernel_rfl) (fun _ _ _ h => h) (Or.inl ⟨by rfl, ?_⟩) (by assumption) ?_
          rotate_left 1
          · (intro w' hSw; obtain ⟨s0, s1, s2, s3⟩ := hSw; go_simp); try with_reducible rfl
          try simp only [Act.put, List.setIfInBounds_toArray, List.set_cons_zero, List.set_cons_succ, Nat.zero_add]
          refine wpAnyY_take (i := 6) (v := ?_) rfl (by kernel_rfl) (by kernel_rfl) (by kernel_rfl) (by kernel_rfl) (fun _ _ _ h => h) (Or.inl ⟨by rfl, ?_⟩) (by assumption) ?_
          rotate_left 1
          · (intro w' hSw; obtain ⟨s0, s1, s2, s3⟩ := hSw; go_simp); try with_reducible rfl
          try simp only [Act.put, List.setIfInBounds_toArray, List.set_cons_zero, List.set_cons_succ, Nat.zero_add]
          refine wpAnyY_take (i := 7) (v := ?_) rfl (by kernel_rfl) (by kernel_rfl) (by kernel_rfl) (by kernel_rfl) (fun _ _ _ h => h) (Or.inl ⟨by rfl, ?_⟩) (by assumption) ?_
          rotate_left 1
          · (intro w' hSw; obtain ⟨s0, s1, s2, s3⟩ := hSw; go_simp); try with_reducible rfl
          try simp only [Act.put, List.setIfInBounds_toArray, List.set_cons_zero, List.set_cons_succ, Nat.zero_add]
          refine wpAnyY_take (i := 8) (v := ?_) rfl (by kernel_rfl) (by kernel_rfl) (by kernel_rfl) (by kernel_rfl) (fun _ _ _ h => h) (Or.inl ⟨by rfl, ?_⟩) (by assumption) ?_
          rotate_left 1
          · (intro w' hSw; obtain ⟨s0, s1, s2, s3⟩ := hSw; go_simp); try with_reducible rfl
          try simp only [Act.put, List.setIfInBounds_toArray, List.set_cons_zero, List.set_cons_succ, Nat.zero_add]
          refine wpAnyY_take (i := 9) (v := ?_) rfl (by kernel_rfl) (by kernel_rfl) (by kernel_rfl) (by kernel_rfl) (fun _ _ _ h => h) (Or.inl ⟨by rfl, ?_⟩) (by assumption) ?_
          rotate_left 1
          · (intro w' hSw; obtain ⟨s0, s1, s2, s3⟩ := hSw; go_simp); try with_reducible rfl
          try simp only [Act.put, List.setIfInBounds_toArray, List.set_cons_zero, List.set_cons_succ, Nat.zero_add]
          refine wpAnyY_take (i := 10) (v := ?_) rfl (by kernel_rfl) (by kernel_rfl) (by kernel_rfl) (by kernel_rfl) (fun _ _ _ h => h) (Or.inl ⟨by rfl, ?_⟩) (by assumption) ?_
          rotate_left 1
          · (intro w' hSw; obtain ⟨s0, s1, s2, s3⟩ := hSw; go_simp); try with_reducible rfl
          try simp only [Act.put, List.setIfInBounds_toArray, List.set_cons_zero, List.set_cons_succ, Nat.zero_add]
          refine wpAnyY_take (i := 11) (v := ?_) rfl (by kernel_rfl) (by kernel_rfl) (by kernel_rfl) (by kernel_rfl) (fun _ _ _ h => h) (Or.inl ⟨by rfl, ?_⟩) (by assumption) ?_
          rotate_left 1
          · (intro w' hSw; obtain ⟨s0, s1, s2, s3⟩ := hSw; go_simp); try with_reducible rfl
          try simp only [Act.put, List.setIfInBounds_toArray, List.set_cons_zero, List.set_cons_succ, Nat.zero_add]
          refine wpAnyY_take (i := 12) (v := ?_) rfl (by kernel_rfl) (by kernel_rfl) (by kernel_rfl) (by kernel_rfl) (fun _ _ _ h => h) (Or.inl ⟨by rfl, ?_⟩) (by assumption) ?_
          rotate_left 1
          · (intro w' hSw; obtain ⟨s0, s1, s2, s3⟩ := hSw; go_simp); try with_reducible rfl
          try simp only [Act.put, List.setIfInBounds_toArray, List.set_cons_zero, List.set_cons_succ, Nat.zero_add]
          refine wpAnyY_one (i := 13) rfl (by kernel_rfl) (fun K hK => ?_)
          go_simp
          obtain ⟨qv, hqv⟩ : ∃ z, wr.heap.size = z := ⟨_, rfl⟩
          obtain ⟨u1, hu1⟩ : ∃ y : World, (wr.alloc (.cells #[.int .i64 ((m0 : Int) + z)] 3)).drew = y := ⟨_, rfl⟩
          have HL1 : Hid (LayR w B p w.heap.size qt nv0 cv0 (.slice (some ⟨b0, off, none⟩) n c) u1 nv cv (.slice Aa j ca) (ns0 ++ (l.take i).map (shiftT m0)) (layC cl0 m0 i) ⟨(va : Int), na, ((l[i]'HIL.out).args.take j).map fun a => (m0 : Int) + a⟩) := Lib.hid (by rw [← hu1]; exact (HL.out.alloc _).drew)
          have HNEW : Hid (∀ j u, [Value.int .i64 ((m0 : Int) + z)][j]? = some u → u1.cell? ((⟨qv, 0, none⟩ : Addr).add j) = some u) := Lib.hid (news_cells (by rw [← hu1]; exact (Blk.new' hqv.symm).drew))
          (try rw [hqv])
          (try rw [hu1])
          clear hqv hu1 HL
          refine hK.out _ _ (fun _ => HS9.out _ _ HL1.out) ?_
          clear hK K
          try simp only [Act.put, List.setIfInBounds_toArray, List.set_cons_zero, List.set_cons_succ, Nat.zero_add]
          refine wpAnyY_one (i := 14) rfl (by kernel_rfl) (fun K hK => ?_)
          refine step_append_from (P := Try.prog) u1 (by rfl) (.tmp 46) (.tmp 58) 64 (by rfl) B 3 Try.underlying64 int_info15 rfl (by omega) (.slice Aa j ca) j _ (by rfl) (by have := HL1.out.args; rw [HTL.out] at this; exact this) (some ⟨qv, 0, none⟩) 1 1 [.int .i64 ((m0 : Int) + z)] (by rfl) (by rfl) (by simp) (fun ad e => by cases e; exact HNEW.out) (fun u hu => by simp only [List.mem_cons, List.not_mem_nil, or_false] at hu; rcases hu with rfl; rfl) (by unfold maxLen; omega) (by omega) (by have := HL1.out.kb.size; have := HBW.out; omega) ?_
          intro A7 c7 w7 own7 hg7 hat7
          have HS7 : Hid ((fun w' : World => w'.cell? ⟨qt, 2, none⟩ = some (.slice Aa j ca) ∧ w'.cell? ⟨w.heap.size, 0, none⟩ = some (.slice (some ⟨b0, off, none⟩) n c) ∧ w'.cell? ⟨b0, off + i * 3 + 2, none⟩ = some (.slice (some ⟨bs, os, none⟩) ma k) ∧ w'.cell? ⟨bs, os + j, none⟩ = some (.int .i64 z)) w7) := Lib.hid (HSG.out _ _ HL1.out hg7)
          have HL8 : Hid (LayR w B p w.heap.size qt nv0 cv0 (.slice (some ⟨b0, off, none⟩) n c) (w7.setCell ⟨qt, 2, none⟩ (.slice A7 (j + 1) c7)) nv cv (.slice A7 (j + 1) c7) (ns0 ++ (l.take i).map (shiftT m0)) (layC cl0 m0 i) ⟨(va : Int), na, ((l[i]'HIL.out).args.take (j + 1)).map fun a => (m0 : Int) + a⟩) := Lib.hid (by
            have h := HL1.out.arg (a := ((m0 : Int) + z)) hg7 (av' := .slice A7 (j + 1) c7) (by rw [HTL.out]; simpa using own7) hat7
            have e : ((l[i]'HIL.out).args.take (j + 1)).map (fun a => (m0 : Int) + a) = ((l[i]'HIL.out).args.take j).map (fun a => (m0 : Int) + a) ++ [(m0 : Int) + z] := by
              rw [List.take_succ_eq_append_getElem HJA.out, List.map_append, List.map_cons, List.map_nil, HZ.out]
            rw [e]
            exact h)
          have HT7 : Hid (Blk w7 qt 66 #[.int .i64 va, .string na, .slice Aa j ca]) := Lib.hid (HL1.out.tb.grown hg7 (fun e => own_ne_blkX HL1.out.args HL1.out.tb (by decide) e.symm))
          clear own7 hg7 hat7 HL1 HNEW
          refine hK.out _ _ (fun _ => HS7.out) ?_
          clear hK K
          try simp only [Act.put, List.setIfInBounds_toArray, List.set_cons_zero, List.set_cons_succ, Nat.zero_add]
          refine wpAnyY_take (i := 15) (v := ?_) rfl (by kernel_rfl) (by kernel_rfl) (by kernel_rfl) (by kernel_rfl) (fun _ _ _ h => h) (Or.inl ⟨by rfl, ?_⟩) (by assumption) ?_
          rotate_left 1
          · (intro w' hSw; obtain ⟨s0, s1, s2, s3⟩ := hSw; go_simp); try with_reducible rfl
          try simp only [Act.put, List.setIfInBounds_toArray, List.set_cons_zero, List.set_cons_succ, Nat.zero_add]
          refine wpAnyY_one0 (i := 16) rfl (by kernel_rfl) (by kernel_rfl) (fun K hK => ?_)
          have x2 := HT7.out.cell 2; have f2 := HT7.out.frozen 2; have hlq := HT7.out.lt
          simp at x2
          go_simp
          obtain ⟨u8, hu8⟩ : ∃ y : World, w7.setCell ⟨qt, 2, none⟩ (.slice A7 (j + 1) c7) = y := ⟨_, rfl⟩
          rw [hu8] at HL8
          (try rw [hu8])
          clear hu8 x2 f2 hlq HT7 HS7
          refine hK.out _ _ ?_
          clear hK K
          try simp only [Act.put, List.setIfInBounds_toArray, List.set_cons_zero, List.set_cons_succ, Nat.zero_add]
          refine wpAnyY_done (by kernel_rfl) ?_ _
          clear hHeld
          go_wp2_with fail
          go_roundg (ma - (j + 1))
          case measure => omega
          case rel => exact ⟨j + 1, A7, c7, by go_num, rfl, by omega, HL8.out⟩
        · have hjm' : ¬ (j : Int) < ma := by omega
          have hjn : j = ma := by omega
          subst hjn
          have HTA : Hid ((l[i]'HIL.out).args.take j = (l[i]'HIL.out).args) := Lib.hid (List.take_of_length_le (by rw [HV.out.2.2]; exact Nat.le_refl _))
          rw [HTA.out] at HL
          obtain ⟨An, cn, hnv⟩ := HL.out.nodes.shape
          have HNL0 : Hid ((ns0 ++ (l.take i).map (shiftT m0)).length = m0 + i) := Lib.hid (by rw [List.length_append, List.length_map, List.length_take, HM.out]; have := HIL.out; omega)
          obtain ⟨nn, hnn⟩ : ∃ z, m0 + i = z := ⟨_, rfl⟩
          have hnb : nn ≤ 1048832 := by omega
          have HNL : Hid ((ns0 ++ (l.take i).map (shiftT m0)).length = nn) := Lib.hid (HNL0.out.trans hnn)
          rw [HNL.out] at hnv
          subst hnv
          have HS10 : Hid (∀ w' {t'}, LayR w B p w.heap.size qt nv0 cv0 (.slice (some ⟨b0, off, none⟩) n c) w' (.slice An nn cn) cv (.slice Aa j ca) (ns0 ++ (l.take i).map (shiftT m0)) (layC cl0 m0 i) t' → t' = ⟨(va : Int), na, ((l[i]'HIL.out).args).map fun a => (m0 : Int) + a⟩ → (fun w' : World => w'.cell? ⟨p, 0, none⟩ = some (.slice An nn cn) ∧ w'.cell? ⟨qt, 0, none⟩ = some (.int .i64 va) ∧ w'.cell? ⟨qt, 1, none⟩ = some (.string na) ∧ w'.cell? ⟨qt, 2, none⟩ = some (.slice Aa j ca)) w') := Lib.hid (fun w' t' h e => by
            subst e
            have h0 := h.tb.cell 0; have h1 := h.tb.cell 1; have h2 := h.tb.cell 2; have hq := h.blk.cell 0
            simp at h0 h1 h2 hq
            exact ⟨hq, h0, h1, h2⟩)
          have HSG2 : Hid (∀ u1 {t'}, LayR w B p w.heap.size qt nv0 cv0 (.slice (some ⟨b0, off, none⟩) n c) u1 (.slice An nn cn) cv (.slice Aa j ca) (ns0 ++ (l.take i).map (shiftT m0)) (layC cl0 m0 i) t' → t' = ⟨(va : Int), na, ((l[i]'HIL.out).args).map fun a => (m0 : Int) + a⟩ → ∀ {w7 : World}, u1.grownBy w7 (Value.slice An nn cn).ownBlock → (fun w' : World => w'.cell? ⟨p, 0, none⟩ = some (.slice An nn cn) ∧ w'.cell? ⟨qt, 0, none⟩ = some (.int .i64 va) ∧ w'.cell? ⟨qt, 1, none⟩ = some (.string na) ∧ w'.cell? ⟨qt, 2, none⟩ = some (.slice Aa j ca)) w7) := Lib.hid (fun u1 t' h e w7 hg => by
            subst e
            obtain ⟨_, _, h2', _⟩ := h.nodes
            have hb := h.tb.grown hg (fun e => h.tv e.symm)
            have h0 := hb.cell 0; have h1 := hb.cell 1; have h2 := hb.cell 2
            have hq := (h.blk.grown hg (fun e => own_ne_blkX h2' h.blk (by decide) e.symm)).cell 0
            simp at h0 h1 h2 hq
            exact ⟨hq, h0, h1, h2⟩)
          go_upto_region 10 with fail
          clear q0 d2 hqt2
          refine wp_region_Y (S := (fun w' : World => w'.cell? ⟨p, 0, none⟩ = some (.slice An nn cn) ∧ w'.cell? ⟨qt, 0, none⟩ = some (.int .i64 va) ∧ w'.cell? ⟨qt, 1, none⟩ = some (.string na) ∧ w'.cell? ⟨qt, 2, none⟩ = some (.slice Aa j ca))) 10 (by kernel_rfl) (HS10.out _ (HL.out.drewN 1) rfl) (fun hHeld => ?_)
          refine wpAnyY_take (i := 0) (v := ?_) rfl (by kernel_rfl) (by kernel_rfl) (by kernel_rfl) (by kernel_rfl) (fun _ _ _ h => h) (Or.inl ⟨by rfl, ?_⟩) (by assumption) ?_
          rotate_left 1
          · (intro w' hSw; obtain ⟨s0, s1, s2, s3⟩ := hSw; go_simp); try with_reducible rfl
          try simp only [Act.put, List.setIfInBounds_toArray, List.set_cons_zero, List.set_cons_succ, Nat.zero_add]
          refine wpAnyY_take (i := 1) (v := ?_) rfl (by kernel_rfl) (by kernel_rfl) (by kernel_rfl) (by kernel_rfl) (fun _ _ _ h => h) (Or.inl ⟨by rfl, ?_⟩) (by assumption) ?_
          rotate_left 1
          · (intro w' hSw; obtain ⟨s0, s1, s2, s3⟩ := hSw; go_simp); try with_reducible rfl
          try simp only [Act.put, List.setIfInBounds_toArray, List.set_cons_zero, List.set_cons_succ, Nat.zero_add]
          refine wpAnyY_take (i := 2) (v := ?_) rfl (by kernel_rfl) (by kernel_rfl) (by kernel_rfl) (by kernel_rfl) (fun _ _ _ h => h) (Or.inl ⟨by rfl, ?_⟩) (by assumption) ?_
          rotate_left 1
          · (intro w' hSw; obtain ⟨s0, s1, s2, s3⟩ := hSw; go_simp); try with_reducible rfl
          try simp only [Act.put, List.setIfInBounds_toArray, List.set_cons_zero, List.set_cons_succ, Nat.zero_add]
          refine wpAnyY_take (i := 3) (v := ?_) rfl (by kernel_rfl) (by kernel_rfl) (by kernel_rfl) (by kernel_rfl) (fun _ _ _ h => h) (Or.inl ⟨by rfl, ?_⟩) (by assumption) ?_
          rotate_left 1
          · (intro w' hSw; obtain ⟨s0, s1, s2, s3⟩ := hSw; go_simp); try with_reducible rfl
          try simp only [Act.put, List.setIfInBounds_toArray, List.set_cons_zero, List.set_cons_succ, Nat.zero_add]
          refine wpAnyY_take (i := 4) (v := ?_) rfl (by kernel_rfl) (by kernel_rfl) (by kernel_rfl) (by kernel_rfl) (fun _ _ _ h => h) (Or.inl ⟨by rfl, ?_⟩) (by assumption) ?_
          rotate_left 1
          · (intro w' hSw; obtain ⟨s0, s1, s2, s3⟩ := hSw; go_simp); try with_reducible rfl
          try simp only [Act.put, List.setIfInBounds_toArray, List.set_cons_zero, List.set_cons_succ, Nat.zero_add]
          refine wpAnyY_take (i := 5) (v := ?_) rfl (by kernel_rfl) (by kernel_rfl) (by kernel_rfl) (by kernel_rfl) (fun _ _ _ h => h) (Or.inl ⟨by rfl, ?_⟩) (by assumption) ?_
          rotate_left 1
          · (intro w' hSw; obtain ⟨s0, s1, s2, s3⟩ := hSw; go_simp); try with_reducible rfl
          try simp only [Act.put, List.setIfInBounds_toArray, List.set_cons_zero, List.set_cons_succ, Nat.zero_add]
          refine wpAnyY_one (i := 6) rfl (by kernel_rfl) (fun K hK => ?_)
          go_simp
          obtain ⟨qv, hqv⟩ : ∃ z, wr.heap.size = z := ⟨_, rfl⟩
          obtain ⟨u1, hu1⟩ : ∃ y : World, (wr.alloc (.cells #[.int .i64 va, .string na, .slice Aa j ca] 66)).drew = y := ⟨_, rfl⟩
          have HL1 : Hid (LayR w B p w.heap.size qt nv0 cv0 (.slice (some ⟨b0, off, none⟩) n c) u1 (.slice An nn cn) cv (.slice Aa j ca) (ns0 ++ (l.take i).map (shiftT m0)) (layC cl0 m0 i) ⟨(va : Int), na, ((l[i]'HIL.out).args).map fun a => (m0 : Int) + a⟩) := Lib.hid (by rw [← hu1]; exact (HL.out.alloc _).drew)
          have HNEW : Hid (∀ j' u, (nodeCells ⟨(va : Int), na, ((l[i]'HIL.out).args).map fun a => (m0 : Int) + a⟩ (.slice Aa j ca))[j']? = some u → u1.cell? ((⟨qv, 0, none⟩ : Addr).add j') = some u) := Lib.hid (news_cells (w := u1) (g := qv) (t := 66) (cs := #[.int .i64 va, .string na, .slice Aa j ca]) (by rw [← hu1]; exact (Blk.new' hqv.symm).drew))
          (try rw [hqv])
          (try rw [hu1])
          clear hqv hu1 HL
          refine hK.out _ _ (fun _ => HS10.out _ HL1.out rfl) ?_
          clear hK K
          try simp only [Act.put, List.setIfInBounds_toArray, List.set_cons_zero, List.set_cons_succ, Nat.zero_add]
          refine wpAnyY_one (i := 7) rfl (by kernel_rfl) (fun K hK => ?_)
          refine step_pushA (P := Try.prog) u1 (eN := 66) (eI := 3) (by decide) (by rfl) (.tmp 65) (.tmp 67) 22 (by rfl) B Try.underlying22 tnode_info15 rfl (.slice An nn cn) _ _ (fun b => cv.ownBlock = some b) (by rfl) HL1.out.nodes ⟨(va : Int), na, ((l[i]'HIL.out).args).map fun a => (m0 : Int) + a⟩ (.slice Aa j ca) HL1.out.args (fun b e => .inr e) (fun b e => ⟨.inl e, fun e2 => (HL1.out.avb b e2).2 e⟩) ⟨qv, 0, none⟩ 1 (by rfl) HNEW.out (by rw [HNL.out]; unfold maxLen; omega) (by rw [HNL.out]; omega) (by have := HL1.out.kb.size; have := HBW.out; omega) ?_
          intro A7 c7 w7 own7 hg7 hat7
          rw [HNL.out] at own7 hat7
          (try rw [HNL.out])
          have HS7 : Hid ((fun w' : World => w'.cell? ⟨p, 0, none⟩ = some (.slice An nn cn) ∧ w'.cell? ⟨qt, 0, none⟩ = some (.int .i64 va) ∧ w'.cell? ⟨qt, 1, none⟩ = some (.string na) ∧ w'.cell? ⟨qt, 2, none⟩ = some (.slice Aa j ca)) w7) := Lib.hid (HSG2.out _ HL1.out rfl hg7)
          have HL8 : Hid (LayB w B p w.heap.size nv0 cv0 (.slice (some ⟨b0, off, none⟩) n c) (w7.setCell ⟨p, 0, none⟩ (.slice A7 (nn + 1) c7)) (.slice A7 (nn + 1) c7) cv ((ns0 ++ (l.take i).map (shiftT m0)) ++ [⟨(va : Int), na, ((l[i]'HIL.out).args).map fun a => (m0 : Int) + a⟩]) (layC cl0 m0 i)) := Lib.hid (HL1.out.push own7 hg7 hat7)
          have HB7 : Hid (Blk w7 p 90 #[.slice An nn cn, cv]) := Lib.hid (HL1.out.blk.grown hg7 (fun e => by
            obtain ⟨_, _, h2, _⟩ := HL1.out.nodes
            exact own_ne_blkX h2 HL1.out.blk (by decide) e.symm))
          clear own7 hg7 hat7 HL1 HNEW
          refine hK.out _ _ (fun _ => HS7.out) ?_
          clear hK K
          try simp only [Act.put, List.setIfInBounds_toArray, List.set_cons_zero, List.set_cons_succ, Nat.zero_add]
          refine wpAnyY_take0 (i := 8) (v := ?_) rfl (by kernel_rfl) (by kernel_rfl) (by kernel_rfl) (by kernel_rfl) (fun _ _ _ h => h) (Or.inl ⟨by rfl, ?_⟩) ?_
          rotate_left 1
          · (intro w' _; go_simp); try with_reducible rfl
          try simp only [Act.put, List.setIfInBounds_toArray, List.set_cons_zero, List.set_cons_succ, Nat.zero_add]
          refine wpAnyY_take (i := 9) (v := ?_) rfl (by kernel_rfl) (by kernel_rfl) (by kernel_rfl) (by kernel_rfl) (fun _ _ _ h => h) (Or.inl ⟨by rfl, ?_⟩) (by assumption) ?_
          rotate_left 1
          · (intro w' hSw; obtain ⟨s0, s1, s2, s3⟩ := hSw; go_simp); try with_reducible rfl
          try simp only [Act.put, List.setIfInBounds_toArray, List.set_cons_zero, List.set_cons_succ, Nat.zero_add]
          refine wpAnyY_one0 (i := 10) rfl (by kernel_rfl) (by kernel_rfl) (fun K hK => ?_)
          have x0 := HB7.out.cell 0; have f0 := HB7.out.frozen 0; have hlp := HB7.out.lt
          simp at x0
          go_simp
          obtain ⟨u8, hu8⟩ : ∃ y : World, w7.setCell ⟨p, 0, none⟩ (.slice A7 (nn + 1) c7) = y := ⟨_, rfl⟩
          rw [hu8] at HL8
          (try rw [hu8])
          clear hu8 x0 f0 hlp HB7 HS7
          refine hK.out _ _ ?_
          clear hK K
          try simp only [Act.put, List.setIfInBounds_toArray, List.set_cons_zero, List.set_cons_succ, Nat.zero_add]
          refine wpAnyY_done (by kernel_rfl) ?_ _
          clear hHeld HSG2 HS10
          have HNE : Hid ((ns0 ++ (l.take i).map (shiftT m0)) ++ [⟨(va : Int), na, ((l[i]'HIL.out).args).map fun a => (m0 : Int) + a⟩] = ns0 ++ (l.take (i + 1)).map (shiftT m0)) := Lib.hid (by
            rw [List.take_succ_eq_append_getElem HIL.out, List.map_append, List.append_assoc]
            congr 2
            show [_] = [shiftT m0 (l[i]'HIL.out)]
            unfold shiftT
            rw [HV.out.1, HV.out.2.1])
          rw [HNE.out] at HL8
          obtain ⟨Ac, cc, hcv⟩ := own_shape HL8.out.rm.cls
          have HCLL : Hid ((layC cl0 m0 i).length = nn) := Lib.hid (by rw [layC_len, HCL.out, HM.out]; exact hnn)
          rw [HCLL.out] at hcv
          subst hcv
          have p1 := HL8.out.rm.blk.cell 1; have p1f := HL8.out.rm.blk.frozen 1; have hpl := HL8.out.rm.blk.lt
          simp at p1
          have hwr : IntKind.i64.wrap ((m0 : Int) + i) = (m0 : Int) + i := by rw [IntWalk.i64_in _ ⟨by omega, by omega⟩]
          have HCO : Hid (u8.ownsRow B 3 1 (.slice Ac nn cc) nn (natCells (layC cl0 m0 i))) := Lib.hid (by have := HL8.out.rm.cls; rw [HCLL.out] at this; exact this)
          have HSZ : Hid (B ≤ u8.heap.size) := Lib.hid (by have := HL8.out.kb.size; have := HBW.out; omega)
          have HNN : Hid (m0 + i = nn) := Lib.hid hnn
          clear hnn
          go_wp2_with (at_builtin; refine wpList_append_from _ rfl (.tmp 75) (.tmp 79) 64 rfl B 3 Try.underlying64 int_info15 rfl (by omega) (.slice Ac nn cc) nn _ rfl (HCO.out.alloc _) (some ⟨u8.heap.size, 0, none⟩) 1 1 [.int .i64 ((m0 : Int) + i)] rfl rfl (by simp) (fun ad e => by cases e; exact news_cells (Blk.new u8 3 #[.int .i64 ((m0 : Int) + i)])) (by intro u hu; simp only [List.mem_cons, List.not_mem_nil, or_false] at hu; subst hu; rfl) (by unfold maxLen; omega) (by omega) (by have := HSZ.out; simp; omega) ?a9)
          case a9 =>
          intro A9 c9 w9 own9 hg9 hat9
          have HL9 : Hid (LayB w B p w.heap.size nv0 cv0 (.slice (some ⟨b0, off, none⟩) n c) (w9.setCell ⟨p, 1, none⟩ (.slice A9 (nn + 1) c9)) (.slice A7 (nn + 1) c7) (.slice A9 (nn + 1) c9) (ns0 ++ (l.take (i + 1)).map (shiftT m0)) (layC cl0 m0 (i + 1))) := Lib.hid (by
            rw [layC_next]
            exact (HL8.out.alloc _).cls (c := m0 + i) hg9 (by rw [HCLL.out, show ((m0 + i : Nat) : Int) = (m0 : Int) + i by omega]; exact own9) (by simpa using hat9))
          have HB9 : Hid (Blk w9 p 90 #[.slice A7 (nn + 1) c7, .slice Ac nn cc]) := Lib.hid ((HL8.out.rm.blk.alloc _).grown hg9 (fun e => own_ne_blkX HCO.out HL8.out.rm.blk (by decide) e.symm))
          clear own9 hg9 hat9 p1 p1f hpl
          have p1 := HB9.out.cell 1; have p1f := HB9.out.frozen 1; have hpl := HB9.out.lt
          simp at p1
          go_wp2_with fail
          go_roundg (n - (i + 1))
          case measure => omega
          case rel => exact ⟨i + 1, _, _, by go_num, rfl, by omega, HL9.out⟩
    · have hin' : ¬ (i : Int) < n := by omega
      have hie : i = l.length := by rw [HN.out]; omega
      have HE : Hid (RM wr B p nv cv (ns0 ++ l.map (shiftT ns0.length)) (layC cl0 ns0.length l.length)) := Lib.hid (by
        have := HL0.out.rm
        rw [hie, List.take_length, ← HM.out] at this
        exact this)
      clear hie
      go_wp2
      go_ret
      exact ⟨by rw [HM.out]; rfl, nv, cv, HE.out, HL0.out.kb, HL0.out.nvb, HL0.out.cvb⟩
end Go.Proofs.Ytgcbnndbeoekgaa
