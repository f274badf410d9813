/- unify's web.lay: a term's nodes are put into the web -/
import Derived.Test.YtgcbnndbeoekgaaDoorLayM
import Derived.Test.YtgcbnndbeoekgaaDoorRegY
import Derived.Test.YtgcbnndbeoekgaaDoorApplyU
import Derived.Deep.LoopGhost
import Derived.StillTailTactics
import Derived.Deep.DeepCutAuto
set_option linter.unusedSimpArgs false
set_option linter.unusedVariables false
namespace Go.Proofs.YtgcbnndbeoekgaaDoor
open Go Go.RowKit Go.Maps

def hasM (bs : List (Int × Value)) (id : Int) : Bool := bs.any fun p => p.1 == id
set_option maxRecDepth 100000 in
theorem look_ok_run {w : World} {b n : Nat} {D : DataW Value} {bs : List (Int × Value)} {t e : TypeId} {z : Value} (hown : w.ownsMap Tryd.prog 3 heldM b n D) (hD : MapV D bs) (ht : Tryd.prog.underlying t = some (.map 3 e)) (hz : (zeroValue e).run Tryd.prog w = .ok z w) {id : Int} (hin : InI id) :
    (Instr.lookup t (.map (some b)) (.int .i64 id) true).run Tryd.prog w = .ok (.tuple #[lookM z bs id, .bool (hasM bs id)]) w := by
  obtain ⟨v, ps, hrun, hv⟩ := hown.look_ok (z := z) lawM ht hz (zd := .held z) (zp := []) rfl (keyM hin)
  rw [hrun]
  have h2 : DataW.held v = D.atKey (kM id) (.held z) := by
    unfold heldM at hv
    injection hv with hv
    exact (Prod.mk.inj hv).1
  rw [hD.look] at h2
  injection h2 with h2
  rw [h2]
  have h3 : Maps.has D (.int .i64 id) = hasM bs id := by
    rw [Bool.eq_iff_iff]
    refine (hD.has_ id).trans ?_
    unfold hasM
    simp
  rw [h3]
theorem hasM_vals {hm : List (Nat × Nat)} {x : Nat} : hasM (holeVals hm) (x : Int) = true ↔ ∃ k, (x, k) ∈ hm := by
  unfold hasM holeVals
  rw [List.any_map, List.any_eq_true]
  constructor
  · rintro ⟨⟨a, b⟩, h1, h2⟩
    have h2 : ((a : Int) == (x : Int)) = true := h2
    have : a = x := by have := beq_iff_eq.1 h2; omega
    exact ⟨b, this ▸ h1⟩
  · rintro ⟨k, h⟩
    exact ⟨(x, k), h, by show ((x : Int) == (x : Int)) = true; simp⟩
theorem look_vals {hm : List (Nat × Nat)} {x k : Nat} {z : Value} (hu : ∀ h k k', (h, k) ∈ hm → (h, k') ∈ hm → k = k') (h : (x, k) ∈ hm) : lookM z (holeVals hm) (x : Int) = .int .i64 k := by
  obtain ⟨p, hp, e1, e2⟩ := lookM_mem (z := z) (bs := holeVals hm) (id := (x : Int)) ⟨((x : Int), .int .i64 k), List.mem_map_of_mem (f := fun p : Nat × Nat => ((p.1 : Int), Value.int .i64 p.2)) h, rfl⟩
  obtain ⟨⟨a, b⟩, h1, rfl⟩ := List.mem_map.1 hp
  have e1 : (a : Int) = x := e1
  have : a = x := by omega
  subst this
  rw [e2, hu a b k h1 h]
theorem vals_put {D : DataW Value} {hm : List (Nat × Nat)} (h : MapV D (holeVals hm)) {x k : Nat} (hn : ∀ k, (x, k) ∉ hm) : MapV (D.put (kM x) (.held (.int .i64 k))) (holeVals (hm ++ [(x, k)])) := by
  have := h.put ((x : Int), .int .i64 k) (fun q hq e => by
    obtain ⟨⟨a, b⟩, h1, rfl⟩ := List.mem_map.1 hq
    have e : (a : Int) = x := e
    have : a = x := by omega
    subst this
    exact hn b h1)
  unfold holeVals at this ⊢
  rw [List.map_append]
  exact this
theorem node_info15 : (Tryd.prog.info? 103).map (fun i => (i.zero, i.size, i.bytes)) = some (some (.agg #[.int .i64 0, .string ⟨#[]⟩, .int .i64 0, .slice none 0 0, .int .i64 0, .int .i64 0, .int .i64 0, .int .i64 0, .int .i64 0]), 9, 96) := by kernel_rfl
/-- what is asked of a term that is laid -/
structure LayIn (ts : List TN) (l0 : List PN) (hm0 : List (Nat × Nat)) : Prop where
  len : 0 < ts.length ∧ ts.length ≤ 256
  big : l0.length ≤ 549755813888 ∧ hm0.length ≤ 549755813888
  uniq : ∀ h k k', (h, k) ∈ hm0 → (h, k') ∈ hm0 → k = k'
  bd : ∀ p ∈ hm0, p.2 < l0.length ∧ 0 < p.1
  node : ∀ t ∈ ts, NodeR t
  args : ∀ t ∈ ts, t.args.length ≤ 256 ∧ ∀ a ∈ t.args, 0 ≤ a ∧ a < ts.length
theorem Lay1.pos {ts : List TN} {l0 l : List PN} {hm0 hm : List (Nat × Nat)} {i : Nat} {at_ : List Nat} (h : Lay1 ts l0 hm0 i l hm at_) (hin : LayIn ts l0 hm0) {x k : Nat} (hk : (x, k) ∈ hm) : 0 < x ∧ k < l.length := by
  rcases h.hmem x k hk with h1 | ⟨_, h2, _, h3⟩
  · have hA := hin.bd _ h1; have hB := h.grow.1; exact ⟨hA.2, by omega⟩
  · exact ⟨h3, h2⟩

set_option maxRecDepth 100000 in
set_option maxHeartbeats 16000000 in
theorem ulay_any (w : World) (B p mb : Nat) (lv0 tv : Value) (td : List (Nat × Nat)) (ts : List TN) (l0 : List PN) (hm0 : List (Nat × Nat)) (A : Option Addr) (c : Nat) (F : Nat → Prop) (hF : ∀ b, F b → b < w.heap.size ∧ ¬ Wb p mb lv0 tv b) (hr : RowOf 3 ETN w F A ts) (hlc : ts.length ≤ c) (hc : c ≤ maxLen)
    (hB : B ≤ w.heap.size) (hweb : WebAt w B p lv0 mb tv l0 hm0 td) (hin : LayIn ts l0 hm0) :
    Calls Tryd.prog 36 #[.pointer (some ⟨p, 0, none⟩), .agg #[.slice A ts.length c]] w (SomeLay w B p mb lv0 tv td ts l0 hm0) := by
  have HR := Lib.hid hr; have HIN := Lib.hid hin; have HFF := Lib.hid hF
  have hn1 := hin.len.1; have hn2 := hin.len.2; have hbg := hin.big
  unfold maxLen at hc
  have HM0 : Hid (LayM w B p mb lv0 tv td w.heap.size (w.heap.size + 1) (.slice A ts.length c) ((w.alloc (.cells #[.slice A ts.length c] 24)).alloc (.cells (madeCells #[.int .i64 0] ts.length) 3)) lv0 l0 hm0 (List.replicate ts.length 0)) := Lib.hid (LayM.start hweb _)
  have HL0 : Hid (Lay1 ts l0 hm0 0 l0 hm0 []) := Lib.hid (Lay1.start hin.uniq)
  have hmk : ∀ w0, (Instr.makeSlice 51 (.int .i64 ts.length) (.int .i64 ts.length)).run Tryd.prog w0 = .ok (.slice (some ⟨w0.heap.size, 0, none⟩) ts.length ts.length) (w0.alloc (.cells (madeCells #[.int .i64 0] ts.length) 3)) := by
    intro w0
    obtain ⟨i, hi, hz, hsize, hby⟩ := info_parts int_info15
    have := run_make (P := Tryd.prog) w0 51 3 i (.int .i64 0) Tryd.underlying51 hi hz .i64 .i64 ts.length ts.length (by omega) (by omega) (by rw [hby]; omega) (by omega)
    rw [hsize] at this
    simpa [Value.cells] using this
  clear hr hweb hin hF
  obtain ⟨n, hn⟩ : ∃ n, ts.length = n := ⟨_, rfl⟩
  have HN := Lib.hid hn
  have hxl : w.heap.size < (w.alloc (.cells #[.slice A ts.length c] 24)).heap.size := by simp
  rw [hn] at hn1 hn2 hmk hlc HM0
  (try rw [hn])
  clear hn hxl
  go_enter Tryd.func36, Tryd.ntmps36
  go_upto_region 3 with fail
  clear hmk
  go_loopg [23] n (fun g s23 wx => ∃ (i : Nat) (lv : Value) (l : List PN) (hm : List (Nat × Nat)) (atL : List Nat), s23 = .int .i64 i ∧ g = n - i ∧ i ≤ n ∧ LayM w B p mb lv0 tv td w.heap.size (w.heap.size + 1) (.slice A n c) wx lv l hm atL ∧ Lay1 ts l0 hm0 i l hm (atL.take i) ∧ atL.length = n ∧ hm.length ≤ hm0.length + i)
  case atStart => exact ⟨0, lv0, l0, hm0, List.replicate n 0, rfl, rfl, Nat.zero_le _, HM0.out, HL0.out, by simp, Nat.le_refl _⟩
  case round =>
    clear HM0 HL0
    obtain ⟨i, lv, l, hm, atL, rfl, rfl, hi, hM, hL, hal, hhl⟩ := hrel
    have HM := Lib.hid hM; have HL := Lib.hid hL; have HAL := Lib.hid hal; have HHL := Lib.hid hhl
    have i0 : (0 : Int) ≤ i := by omega
    clear hL hal hhl
    by_cases hlt : i < n
    · have hlt' : (i : Int) < n := by omega
      have hlt2 : i < ts.length := by rw [HN.out]; exact hlt
      have hFK : Keep F w wr := Keep.kb hM.kb HFF.out
      obtain ⟨b, off, S, k, rfl, hbF, d0, d1, d2, hk1, hk2, hrow⟩ := nodes_at HR.out hlt2
      have d0 := (hFK ⟨b, off + i * 3, none⟩ hbF).trans d0
      have d1 := (hFK ⟨b, off + i * 3 + 1, none⟩ hbF).trans d1
      have d2 := (hFK ⟨b, off + i * 3 + 2, none⟩ hbF).trans d2
      have hNR := HIN.out.node _ (List.getElem_mem hlt2)
      have HTE : Hid (∃ t, ts[i] = t) := Lib.hid ⟨_, rfl⟩
      obtain ⟨x, hx, hx0⟩ : ∃ x : Nat, ts[i].var = (x : Int) ∧ x ≤ 2147483647 := by
        rcases hNR with h1 | h1
        · exact ⟨ts[i].var.toNat, by have := h1.1; omega, by have := h1.2.1; omega⟩
        · exact ⟨0, h1.1, by omega⟩
      obtain ⟨y, hy⟩ : ∃ y, ts[i].name = y := ⟨_, rfl⟩
      obtain ⟨m, hm_⟩ : ∃ m, ts[i].args.length = m := ⟨_, rfl⟩
      have HX := Lib.hid hx; have HY := Lib.hid hy; have HMM := Lib.hid hm_; have HNR := Lib.hid hNR
      rw [hx] at d0; rw [hy] at d1; rw [hm_] at d2 hk1
      have hqx := hM.box.cell 0
      have hqxl := hM.box.lt
      simp at hqx
      unfold maxLen at hk2
      have x0 : (0 : Int) ≤ x := by omega
      have x1 : (x : Int) ≤ 2147483647 := by omega
      clear hrow hFK hM hNR hx hy hm_ HTE hx0
      go_upto_region 5 with fail
      clear d0 d1 d2 hqx hqxl
      obtain ⟨qt, hqt⟩ : ∃ q, wr.heap.size = q := ⟨_, rfl⟩
      obtain ⟨u, hu⟩ : ∃ u : World, wr.alloc (.cells #[.int .i64 x, .string y, .slice S m k] 58) = u := ⟨_, rfl⟩
      have HMU : Hid (LayM w B p mb lv0 tv td w.heap.size (w.heap.size + 1) (.slice (some ⟨b, off, none⟩) n c) u lv l hm atL) := Lib.hid (by rw [← hu]; exact HM.out.alloc _)
      have HTU : Hid (Blk u qt 58 #[.int .i64 x, .string y, .slice S m k]) := Lib.hid (by rw [← hu]; exact Blk.new' hqt.symm)
      have HQT : Hid (w.heap.size ≤ qt) := Lib.hid (by have := HM.out.kb.size; omega)
      (try rw [hu])
      (try rw [hqt])
      clear hu hqt HM
      obtain ⟨D, hD, hV⟩ := HMU.out.web.holes
      have hinx : InI (x : Int) := ⟨by omega, by omega⟩
      have hlk := fun nn : Nat => look_ok_run (w := u.drewN nn) (z := .int .i64 0) hD hV Tryd.underlying82 (zero_int _) hinx
      have p1 := HMU.out.web.blk.cell 1
      have t0 := HTU.out.cell 0
      simp at p1 t0
      clear hD hV hinx
      by_cases hx0 : 0 < x
      · by_cases hh : ∃ kk, (x, kk) ∈ hm
        · obtain ⟨kk, hkk⟩ := hh
          rw [hasM_vals.2 ⟨kk, hkk⟩, look_vals HL.out.uniq hkk] at hlk
          have hpp := HL.out.pos HIN.out hkk
          have g1 : (0 : Int) < x := by omega
          have HPP := Lib.hid hpp; have HKK := Lib.hid hkk
          clear hpp hkk
          go_quiet (fail)
          clear hlk p1 t0
          obtain ⟨u1, hu1⟩ : ∃ q, u.drewN nq = q := ⟨_, rfl⟩
          have HM1 : Hid (LayM w B p mb lv0 tv td w.heap.size (w.heap.size + 1) (.slice (some ⟨b, off, none⟩) n c) u1 lv l hm atL) := Lib.hid (by rw [← hu1]; exact HMU.out.drewN nq)
          have HT1 : Hid (Blk u1 qt 58 #[.int .i64 x, .string y, .slice S m k]) := Lib.hid (by rw [← hu1]; exact HTU.out.drewN nq)
          try rw [hu1]
          clear hu1 HMU HTU
          have t0 := HT1.out.cell 0
          simp at t0
          have hali : i < atL.length := by rw [HAL.out]; exact hlt
          obtain ⟨z, a0⟩ : ∃ z : Nat, u1.cell? ⟨w.heap.size + 1, i, none⟩ = some (.int .i64 z) := ⟨_, HM1.out.row.cell hali⟩
          have af := Blk.frozen HM1.out.row i
          clear hali
          go_wp2_with fail
          go_roundg (n - (i + 1))
          case measure => omega
          case rel =>
            refine ⟨i + 1, lv, l, hm, atL.set i kk, by go_num, rfl, by omega, HM1.out.store i kk, ?_, by rw [List.length_set]; exact HAL.out, by have := HHL.out; omega⟩
            rw [take_set_snoc (by rw [HAL.out]; exact hlt)]
            exact HL.out.old hlt2 (by rw [HX.out]; omega) (by rw [HX.out, Int.toNat_natCast]; exact HKK.out)
        · have HNY : Hid (y = ByteArray.empty ∧ m = 0) := Lib.hid (by
            rcases HNR.out with h1 | h1
            · exact ⟨by rw [← HY.out]; exact empty_of h1.2.2.1, by rw [← HMM.out]; exact h1.2.2.2⟩
            · have := h1.1; rw [HX.out] at this; omega)
          have hbf : hasM (holeVals hm) (x : Int) = false := by
            cases e : hasM (holeVals hm) (x : Int) with
            | false => rfl
            | true => exact absurd (hasM_vals.1 e) hh
          have hlz : lookM (.int .i64 0) (holeVals hm) (x : Int) = .int .i64 0 := lookM_not fun q hq e => by
            obtain ⟨⟨a, b⟩, h1, rfl⟩ := List.mem_map.1 hq
            have e : (a : Int) = x := e
            exact hh ⟨b, by rw [show a = x by omega] at h1; exact h1⟩
          rw [hbf, hlz] at hlk
          have HNK : Hid (∀ kk, (x, kk) ∉ hm) := Lib.hid (fun kk h => hh ⟨kk, h⟩)
          clear hbf hlz hh
          have g1 : (0 : Int) < x := by omega
          go_quiet (fail)
          clear hlk p1 t0
          obtain ⟨u1, hu1⟩ : ∃ q, u.drewN nq = q := ⟨_, rfl⟩
          have HM1 : Hid (LayM w B p mb lv0 tv td w.heap.size (w.heap.size + 1) (.slice (some ⟨b, off, none⟩) n c) u1 lv l hm atL) := Lib.hid (by rw [← hu1]; exact HMU.out.drewN nq)
          have HT1 : Hid (Blk u1 qt 58 #[.int .i64 x, .string y, .slice S m k]) := Lib.hid (by rw [← hu1]; exact HTU.out.drewN nq)
          try rw [hu1]
          clear hu1 HMU HTU
          obtain ⟨Av, cv, rfl⟩ := HM1.out.web.nodes.shape
          obtain ⟨ll, hll⟩ : ∃ ll, l.length = ll := ⟨_, rfl⟩
          have HLL := Lib.hid hll
          have hlb : ll ≤ 549755814144 := by rw [← hll]; have := HL.out.grow.2; omega
          rw [hll] at HM1
          (try rw [hll])
          clear hll
          have t0 := HT1.out.cell 0
          have p0 := HM1.out.web.blk.cell 0
          simp at t0 p0
          have hali : i < atL.length := by rw [HAL.out]; exact hlt
          obtain ⟨z, a0⟩ : ∃ z : Nat, u1.cell? ⟨w.heap.size + 1, i, none⟩ = some (.int .i64 z) := ⟨_, HM1.out.row.cell hali⟩
          have af := Blk.frozen HM1.out.row i
          clear hali
          go_upto_region 9 with fail
          clear t0 p0 a0 af
          obtain ⟨u2, hu2⟩ : ∃ q, u1.setCell ⟨w.heap.size + 1, i, none⟩ (.int .i64 ll) = q := ⟨_, rfl⟩
          have HM2 : Hid (LayM w B p mb lv0 tv td w.heap.size (w.heap.size + 1) (.slice (some ⟨b, off, none⟩) n c) u2 (.slice Av ll cv) l hm (atL.set i ll)) := Lib.hid (by rw [← hu2]; exact HM1.out.store i ll)
          have HT2 : Hid (Blk u2 qt 58 #[.int .i64 x, .string y, .slice S m k]) := Lib.hid (by rw [← hu2]; exact HT1.out.far (p := ⟨w.heap.size + 1, i, none⟩) (blk_ne HT1.out HM1.out.row (by decide)) _)
          try rw [hu2]
          clear hu2 HM1 HT1
          have t0 := HT2.out.cell 0; have t1 := HT2.out.cell 1; have t2 := HT2.out.cell 2
          have p0 := HM2.out.web.blk.cell 0
          simp at t0 t1 t2 p0
          have HQB : Hid (qt < u2.heap.size ∧ p < u2.heap.size) := Lib.hid ⟨HT2.out.lt, HM2.out.web.blk.lt⟩
          refine wp_region_Y (S := (fun w' : World => w'.cell? ⟨p, 0, none⟩ = some (.slice Av ll cv) ∧ w'.cell? ⟨qt, 0, none⟩ = some (.int .i64 x) ∧ w'.cell? ⟨qt, 1, none⟩ = some (.string y) ∧ w'.cell? ⟨qt, 2, none⟩ = some (.slice S m k))) 22 (by kernel_rfl) (⟨p0, t0, t1, t2⟩) (fun hHeld => ?_)
          refine wpAnyY_take (i := 0) (v := ?_) rfl (by kernel_rfl) (by kernel_rfl) (by kernel_rfl) (by kernel_rfl) (fun _ _ _ h => h) (Or.inl ⟨by rfl, ?_⟩) (by assumption) ?_
          rotate_left 1
          · (intro w' hSw; obtain ⟨s0, s1, s2, s3⟩ := hSw; go_simp); try with_reducible rfl
          try simp only [Act.put, List.setIfInBounds_toArray, List.set_cons_zero, List.set_cons_succ, Nat.zero_add]
          refine wpAnyY_take (i := 1) (v := ?_) rfl (by kernel_rfl) (by kernel_rfl) (by kernel_rfl) (by kernel_rfl) (fun _ _ _ h => h) (Or.inl ⟨by rfl, ?_⟩) (by assumption) ?_
          rotate_left 1
          · (intro w' hSw; obtain ⟨s0, s1, s2, s3⟩ := hSw; go_simp); try with_reducible rfl
          try simp only [Act.put, List.setIfInBounds_toArray, List.set_cons_zero, List.set_cons_succ, Nat.zero_add]
          refine wpAnyY_take (i := 2) (v := ?_) rfl (by kernel_rfl) (by kernel_rfl) (by kernel_rfl) (by kernel_rfl) (fun _ _ _ h => h) (Or.inl ⟨by rfl, ?_⟩) (by assumption) ?_
          rotate_left 1
          · (intro w' hSw; obtain ⟨s0, s1, s2, s3⟩ := hSw; go_simp); try with_reducible rfl
          try simp only [Act.put, List.setIfInBounds_toArray, List.set_cons_zero, List.set_cons_succ, Nat.zero_add]
          refine wpAnyY_take (i := 3) (v := ?_) rfl (by kernel_rfl) (by kernel_rfl) (by kernel_rfl) (by kernel_rfl) (fun _ _ _ h => h) (Or.inl ⟨by rfl, ?_⟩) (by assumption) ?_
          rotate_left 1
          · (intro w' hSw; obtain ⟨s0, s1, s2, s3⟩ := hSw; go_simp); try with_reducible rfl
          try simp only [Act.put, List.setIfInBounds_toArray, List.set_cons_zero, List.set_cons_succ, Nat.zero_add]
          refine wpAnyY_take (i := 4) (v := ?_) rfl (by kernel_rfl) (by kernel_rfl) (by kernel_rfl) (by kernel_rfl) (fun _ _ _ h => h) (Or.inl ⟨by rfl, ?_⟩) (by assumption) ?_
          rotate_left 1
          · (intro w' hSw; obtain ⟨s0, s1, s2, s3⟩ := hSw; go_simp); try with_reducible rfl
          try simp only [Act.put, List.setIfInBounds_toArray, List.set_cons_zero, List.set_cons_succ, Nat.zero_add]
          refine wpAnyY_take (i := 5) (v := ?_) rfl (by kernel_rfl) (by kernel_rfl) (by kernel_rfl) (by kernel_rfl) (fun _ _ _ h => h) (Or.inl ⟨by rfl, ?_⟩) (by assumption) ?_
          rotate_left 1
          · (intro w' hSw; obtain ⟨s0, s1, s2, s3⟩ := hSw; go_simp); try with_reducible rfl
          try simp only [Act.put, List.setIfInBounds_toArray, List.set_cons_zero, List.set_cons_succ, Nat.zero_add]
          refine wpAnyY_take (i := 6) (v := ?_) rfl (by kernel_rfl) (by kernel_rfl) (by kernel_rfl) (by kernel_rfl) (fun _ _ _ h => h) (Or.inl ⟨by rfl, ?_⟩) (by assumption) ?_
          rotate_left 1
          · (intro w' hSw; obtain ⟨s0, s1, s2, s3⟩ := hSw; go_simp); try with_reducible rfl
          try simp only [Act.put, List.setIfInBounds_toArray, List.set_cons_zero, List.set_cons_succ, Nat.zero_add]
          refine wpAnyY_take (i := 7) (v := ?_) rfl (by kernel_rfl) (by kernel_rfl) (by kernel_rfl) (by kernel_rfl) (fun _ _ _ h => h) (Or.inl ⟨by rfl, ?_⟩) (by assumption) ?_
          rotate_left 1
          · (intro w' hSw; obtain ⟨s0, s1, s2, s3⟩ := hSw; go_simp); try with_reducible rfl
          try simp only [Act.put, List.setIfInBounds_toArray, List.set_cons_zero, List.set_cons_succ, Nat.zero_add]
          refine wpAnyY_take (i := 8) (v := ?_) rfl (by kernel_rfl) (by kernel_rfl) (by kernel_rfl) (by kernel_rfl) (fun _ _ _ h => h) (Or.inl ⟨by rfl, ?_⟩) (by assumption) ?_
          rotate_left 1
          · (intro w' hSw; obtain ⟨s0, s1, s2, s3⟩ := hSw; go_simp); try with_reducible rfl
          try simp only [Act.put, List.setIfInBounds_toArray, List.set_cons_zero, List.set_cons_succ, Nat.zero_add]
          refine wpAnyY_take (i := 9) (v := ?_) rfl (by kernel_rfl) (by kernel_rfl) (by kernel_rfl) (by kernel_rfl) (fun _ _ _ h => h) (Or.inl ⟨by rfl, ?_⟩) (by assumption) ?_
          rotate_left 1
          · (intro w' hSw; obtain ⟨s0, s1, s2, s3⟩ := hSw; go_simp); try with_reducible rfl
          try simp only [Act.put, List.setIfInBounds_toArray, List.set_cons_zero, List.set_cons_succ, Nat.zero_add]
          refine wpAnyY_take (i := 10) (v := ?_) rfl (by kernel_rfl) (by kernel_rfl) (by kernel_rfl) (by kernel_rfl) (fun _ _ _ h => h) (Or.inl ⟨by rfl, ?_⟩) (by assumption) ?_
          rotate_left 1
          · (intro w' hSw; obtain ⟨s0, s1, s2, s3⟩ := hSw; go_simp); try with_reducible rfl
          try simp only [Act.put, List.setIfInBounds_toArray, List.set_cons_zero, List.set_cons_succ, Nat.zero_add]
          refine wpAnyY_take (i := 11) (v := ?_) rfl (by kernel_rfl) (by kernel_rfl) (by kernel_rfl) (by kernel_rfl) (fun _ _ _ h => h) (Or.inl ⟨by rfl, ?_⟩) (by assumption) ?_
          rotate_left 1
          · (intro w' hSw; obtain ⟨s0, s1, s2, s3⟩ := hSw; go_simp); try with_reducible rfl
          try simp only [Act.put, List.setIfInBounds_toArray, List.set_cons_zero, List.set_cons_succ, Nat.zero_add]
          refine wpAnyY_take (i := 12) (v := ?_) rfl (by kernel_rfl) (by kernel_rfl) (by kernel_rfl) (by kernel_rfl) (fun _ _ _ h => h) (Or.inl ⟨by rfl, ?_⟩) (by assumption) ?_
          rotate_left 1
          · (intro w' hSw; obtain ⟨s0, s1, s2, s3⟩ := hSw; go_simp); try with_reducible rfl
          try simp only [Act.put, List.setIfInBounds_toArray, List.set_cons_zero, List.set_cons_succ, Nat.zero_add]
          refine wpAnyY_take (i := 13) (v := ?_) rfl (by kernel_rfl) (by kernel_rfl) (by kernel_rfl) (by kernel_rfl) (fun _ _ _ h => h) (Or.inl ⟨by rfl, ?_⟩) (by assumption) ?_
          rotate_left 1
          · (intro w' hSw; obtain ⟨s0, s1, s2, s3⟩ := hSw; go_simp); try with_reducible rfl
          try simp only [Act.put, List.setIfInBounds_toArray, List.set_cons_zero, List.set_cons_succ, Nat.zero_add]
          refine wpAnyY_take (i := 14) (v := ?_) rfl (by kernel_rfl) (by kernel_rfl) (by kernel_rfl) (by kernel_rfl) (fun _ _ _ h => h) (Or.inl ⟨by rfl, ?_⟩) (by assumption) ?_
          rotate_left 1
          · (intro w' hSw; obtain ⟨s0, s1, s2, s3⟩ := hSw; go_simp); try with_reducible rfl
          try simp only [Act.put, List.setIfInBounds_toArray, List.set_cons_zero, List.set_cons_succ, Nat.zero_add]
          refine wpAnyY_take (i := 15) (v := ?_) rfl (by kernel_rfl) (by kernel_rfl) (by kernel_rfl) (by kernel_rfl) (fun _ _ _ h => h) (Or.inl ⟨by rfl, ?_⟩) (by assumption) ?_
          rotate_left 1
          · (intro w' hSw; obtain ⟨s0, s1, s2, s3⟩ := hSw; go_simp); try with_reducible rfl
          try simp only [Act.put, List.setIfInBounds_toArray, List.set_cons_zero, List.set_cons_succ, Nat.zero_add]
          refine wpAnyY_take (i := 16) (v := ?_) rfl (by kernel_rfl) (by kernel_rfl) (by kernel_rfl) (by kernel_rfl) (fun _ _ _ h => h) (Or.inl ⟨by rfl, ?_⟩) (by assumption) ?_
          rotate_left 1
          · (intro w' hSw; obtain ⟨s0, s1, s2, s3⟩ := hSw; go_simp); try with_reducible rfl
          try simp only [Act.put, List.setIfInBounds_toArray, List.set_cons_zero, List.set_cons_succ, Nat.zero_add]
          refine wpAnyY_take (i := 17) (v := ?_) rfl (by kernel_rfl) (by kernel_rfl) (by kernel_rfl) (by kernel_rfl) (fun _ _ _ h => h) (Or.inl ⟨by rfl, ?_⟩) (by assumption) ?_
          rotate_left 1
          · (intro w' hSw; obtain ⟨s0, s1, s2, s3⟩ := hSw; go_simp); try with_reducible rfl
          try simp only [Act.put, List.setIfInBounds_toArray, List.set_cons_zero, List.set_cons_succ, Nat.zero_add]
          refine wpAnyY_take (i := 18) (v := ?_) rfl (by kernel_rfl) (by kernel_rfl) (by kernel_rfl) (by kernel_rfl) (fun _ _ _ h => h) (Or.inl ⟨by rfl, ?_⟩) (by assumption) ?_
          rotate_left 1
          · (intro w' hSw; obtain ⟨s0, s1, s2, s3⟩ := hSw; go_simp); try with_reducible rfl
          try simp only [Act.put, List.setIfInBounds_toArray, List.set_cons_zero, List.set_cons_succ, Nat.zero_add]
          refine wpAnyY_take (i := 19) (v := ?_) rfl (by kernel_rfl) (by kernel_rfl) (by kernel_rfl) (by kernel_rfl) (fun _ _ _ h => h) (Or.inl ⟨by rfl, ?_⟩) (by assumption) ?_
          rotate_left 1
          · (intro w' hSw; obtain ⟨s0, s1, s2, s3⟩ := hSw; go_simp); try with_reducible rfl
          try simp only [Act.put, List.setIfInBounds_toArray, List.set_cons_zero, List.set_cons_succ, Nat.zero_add]
          refine wpAnyY_take (i := 20) (v := ?_) rfl (by kernel_rfl) (by kernel_rfl) (by kernel_rfl) (by kernel_rfl) (fun _ _ _ h => h) (Or.inl ⟨by rfl, ?_⟩) (by assumption) ?_
          rotate_left 1
          · (intro w' hSw; obtain ⟨s0, s1, s2, s3⟩ := hSw; go_simp); try with_reducible rfl
          try simp only [Act.put, List.setIfInBounds_toArray, List.set_cons_zero, List.set_cons_succ, Nat.zero_add]
          refine wpAnyY_one (i := 21) rfl (by kernel_rfl) (fun K hK => ?_)
          go_simp
          refine hK.out _ _ (fun _ => ⟨?_, ?_, ?_, ?_⟩) ?_
          · exact (cell_alloc HQB.out.2 _ _).trans p0
          · exact (cell_alloc HQB.out.1 _ _).trans t0
          · exact (cell_alloc HQB.out.1 _ _).trans t1
          · exact (cell_alloc HQB.out.1 _ _).trans t2
          clear hK K
          try simp only [Act.put, List.setIfInBounds_toArray, List.set_cons_zero, List.set_cons_succ, Nat.zero_add]
          refine wpAnyY_one0 (i := 22) rfl (by kernel_rfl) (by kernel_rfl) (fun K hK => ?_)
          go_simp
          refine hK.out _ _ ?_
          clear hK K
          try simp only [Act.put, List.setIfInBounds_toArray, List.set_cons_zero, List.set_cons_succ, Nat.zero_add]
          refine wpAnyY_done (by kernel_rfl) ?_ _
          obtain ⟨u3, hu3⟩ : ∃ q : World, (u2.alloc (.cells #[.int .i64 x, .string y, .int .i64 m, .slice none 0 0, .int .i64 ll, .int .i64 ll, .int .i64 x, .int .i64 0, .int .i64 0] 103)).drew = q := ⟨_, rfl⟩
          obtain ⟨qn, hqn⟩ : ∃ q, u2.heap.size = q := ⟨_, rfl⟩
          have HM3 : Hid (LayM w B p mb lv0 tv td w.heap.size (w.heap.size + 1) (.slice (some ⟨b, off, none⟩) n c) u3 (.slice Av ll cv) l hm (atL.set i ll)) := Lib.hid (by rw [← hu3]; exact (HM2.out.alloc _).drew)
          have HT3 : Hid (Blk u3 qt 58 #[.int .i64 x, .string y, .slice S m k]) := Lib.hid (by rw [← hu3]; exact (HT2.out.alloc _).drew)
          have HN3 : Hid (Blk u3 qn 103 #[.int .i64 x, .string y, .int .i64 m, .slice none 0 0, .int .i64 ll, .int .i64 ll, .int .i64 x, .int .i64 0, .int .i64 0]) := Lib.hid (by rw [← hu3]; exact (Blk.new' hqn.symm).drew)
          have HQN : Hid (w.heap.size ≤ qn ∧ (Value.slice Av ll cv).ownBlock ≠ some qn) := Lib.hid ⟨by have := HM2.out.kb.size; omega, fun e => by have := (HM2.out.web.nodes.lt _ e).2; omega⟩
          try rw [hu3]
          try rw [hqn]
          clear hu3 hqn HM2 HT2 t0 t1 t2 p0 HQB
          have t0 := HT3.out.cell 0
          have n5 := HN3.out.cell 5; have n5f := HN3.out.frozen 5
          simp at t0 n5
          go_upto_region 12 with fail
          obtain ⟨u4, hu4⟩ : ∃ q, u3.setCell ⟨qn, 5, none⟩ (.int .i64 (-1)) = q := ⟨_, rfl⟩
          have HM4 : Hid (LayM w B p mb lv0 tv td w.heap.size (w.heap.size + 1) (.slice (some ⟨b, off, none⟩) n c) u4 (.slice Av ll cv) l hm (atL.set i ll)) := Lib.hid (by rw [← hu4]; exact HM3.out.box_ HN3.out HQN.out.1 HQN.out.2 rfl _)
          have HT4 : Hid (Blk u4 qt 58 #[.int .i64 x, .string y, .slice S m k]) := Lib.hid (by rw [← hu4]; exact HT3.out.far (p := ⟨qn, 5, none⟩) (blk_ne HT3.out HN3.out (by decide)) _)
          have HN4 : Hid (Blk u4 qn 103 #[.int .i64 x, .string y, .int .i64 m, .slice none 0 0, .int .i64 ll, .int .i64 (-1), .int .i64 x, .int .i64 0, .int .i64 0]) := Lib.hid (by rw [← hu4]; simpa using HN3.out.set_ 5 (.int .i64 (-1)))
          try rw [hu4]
          clear hu4 HM3 HT3 HN3 t0 n5 n5f
          obtain ⟨D4, hD4, hV4⟩ := HM4.out.web.holes
          obtain ⟨u5, hst, hD5, hg5⟩ := World.ownsMap.update (w := u4.drew) (t := 82) (e := 3) hD4 lawM Tryd.underlying82 (by have := HHL.out; unfold maxLen; omega) (key := .int .i64 x) (val := .int .i64 ll) (keyM ⟨by omega, by omega⟩) rfl
          have HM5 : Hid (LayM w B p mb lv0 tv td w.heap.size (w.heap.size + 1) (.slice (some ⟨b, off, none⟩) n c) u5 (.slice Av ll cv) l (hm ++ [(x, ll)]) (atL.set i ll)) := Lib.hid (HM4.out.drew.put hg5 hD5 (vals_put hV4 HNK.out))
          have HN5 : Hid (Blk u5 qn 103 #[.int .i64 x, .string y, .int .i64 m, .slice none 0 0, .int .i64 ll, .int .i64 (-1), .int .i64 x, .int .i64 0, .int .i64 0]) := Lib.hid (HN4.out.drew.grown hg5 (fun e => by injection e with e; exact map_ne_blk hD4 HN4.out e.symm))
          have t0 := HT4.out.cell 0
          have p0 := HM4.out.web.blk.cell 0; have p1 := HM4.out.web.blk.cell 1
          simp at t0 p0 p1
          clear hD4 hV4 hD5 hg5
          refine wp_region_Y (S := (fun w' : World => w'.cell? ⟨p, 0, none⟩ = some (.slice Av ll cv) ∧ w'.cell? ⟨p, 1, none⟩ = some (.map (some mb)) ∧ w'.cell? ⟨qt, 0, none⟩ = some (.int .i64 x))) 11 (by kernel_rfl) (⟨p0, p1, t0⟩) (fun hHeld => ?_)
          refine wpAnyY_take (i := 0) (v := ?_) rfl (by kernel_rfl) (by kernel_rfl) (by kernel_rfl) (by kernel_rfl) (fun _ _ _ h => h) (Or.inl ⟨by rfl, ?_⟩) (by assumption) ?_
          rotate_left 1
          · (intro w' hSw; obtain ⟨s0, s1, s2⟩ := hSw; go_simp); try with_reducible rfl
          try simp only [Act.put, List.setIfInBounds_toArray, List.set_cons_zero, List.set_cons_succ, Nat.zero_add]
          refine wpAnyY_take (i := 1) (v := ?_) rfl (by kernel_rfl) (by kernel_rfl) (by kernel_rfl) (by kernel_rfl) (fun _ _ _ h => h) (Or.inl ⟨by rfl, ?_⟩) (by assumption) ?_
          rotate_left 1
          · (intro w' hSw; obtain ⟨s0, s1, s2⟩ := hSw; go_simp); try with_reducible rfl
          try simp only [Act.put, List.setIfInBounds_toArray, List.set_cons_zero, List.set_cons_succ, Nat.zero_add]
          refine wpAnyY_take (i := 2) (v := ?_) rfl (by kernel_rfl) (by kernel_rfl) (by kernel_rfl) (by kernel_rfl) (fun _ _ _ h => h) (Or.inl ⟨by rfl, ?_⟩) (by assumption) ?_
          rotate_left 1
          · (intro w' hSw; obtain ⟨s0, s1, s2⟩ := hSw; go_simp); try with_reducible rfl
          try simp only [Act.put, List.setIfInBounds_toArray, List.set_cons_zero, List.set_cons_succ, Nat.zero_add]
          refine wpAnyY_take (i := 3) (v := ?_) rfl (by kernel_rfl) (by kernel_rfl) (by kernel_rfl) (by kernel_rfl) (fun _ _ _ h => h) (Or.inl ⟨by rfl, ?_⟩) (by assumption) ?_
          rotate_left 1
          · (intro w' hSw; obtain ⟨s0, s1, s2⟩ := hSw; go_simp); try with_reducible rfl
          try simp only [Act.put, List.setIfInBounds_toArray, List.set_cons_zero, List.set_cons_succ, Nat.zero_add]
          refine wpAnyY_take (i := 4) (v := ?_) rfl (by kernel_rfl) (by kernel_rfl) (by kernel_rfl) (by kernel_rfl) (fun _ _ _ h => h) (Or.inl ⟨by rfl, ?_⟩) (by assumption) ?_
          rotate_left 1
          · (intro w' hSw; obtain ⟨s0, s1, s2⟩ := hSw; go_simp); try with_reducible rfl
          try simp only [Act.put, List.setIfInBounds_toArray, List.set_cons_zero, List.set_cons_succ, Nat.zero_add]
          refine wpAnyY_take (i := 5) (v := ?_) rfl (by kernel_rfl) (by kernel_rfl) (by kernel_rfl) (by kernel_rfl) (fun _ _ _ h => h) (Or.inl ⟨by rfl, ?_⟩) (by assumption) ?_
          rotate_left 1
          · (intro w' hSw; obtain ⟨s0, s1, s2⟩ := hSw; go_simp); try with_reducible rfl
          try simp only [Act.put, List.setIfInBounds_toArray, List.set_cons_zero, List.set_cons_succ, Nat.zero_add]
          refine wpAnyY_take (i := 6) (v := ?_) rfl (by kernel_rfl) (by kernel_rfl) (by kernel_rfl) (by kernel_rfl) (fun _ _ _ h => h) (Or.inl ⟨by rfl, ?_⟩) (by assumption) ?_
          rotate_left 1
          · (intro w' hSw; obtain ⟨s0, s1, s2⟩ := hSw; go_simp); try with_reducible rfl
          try simp only [Act.put, List.setIfInBounds_toArray, List.set_cons_zero, List.set_cons_succ, Nat.zero_add]
          refine wpAnyY_take (i := 7) (v := ?_) rfl (by kernel_rfl) (by kernel_rfl) (by kernel_rfl) (by kernel_rfl) (fun _ _ _ h => h) (Or.inl ⟨by rfl, ?_⟩) (by assumption) ?_
          rotate_left 1
          · (intro w' hSw; obtain ⟨s0, s1, s2⟩ := hSw; go_simp); try with_reducible rfl
          try simp only [Act.put, List.setIfInBounds_toArray, List.set_cons_zero, List.set_cons_succ, Nat.zero_add]
          refine wpAnyY_take (i := 8) (v := ?_) rfl (by kernel_rfl) (by kernel_rfl) (by kernel_rfl) (by kernel_rfl) (fun _ _ _ h => h) (Or.inl ⟨by rfl, ?_⟩) (by assumption) ?_
          rotate_left 1
          · (intro w' hSw; obtain ⟨s0, s1, s2⟩ := hSw; go_simp); try with_reducible rfl
          try simp only [Act.put, List.setIfInBounds_toArray, List.set_cons_zero, List.set_cons_succ, Nat.zero_add]
          refine wpAnyY_take (i := 9) (v := ?_) rfl (by kernel_rfl) (by kernel_rfl) (by kernel_rfl) (by kernel_rfl) (fun _ _ _ h => h) (Or.inl ⟨by rfl, ?_⟩) (by assumption) ?_
          rotate_left 1
          · (intro w' hSw; obtain ⟨s0, s1, s2⟩ := hSw; go_simp); try with_reducible rfl
          try simp only [Act.put, List.setIfInBounds_toArray, List.set_cons_zero, List.set_cons_succ, Nat.zero_add]
          refine wpAnyY_take (i := 10) (v := ?_) rfl (by kernel_rfl) (by kernel_rfl) (by kernel_rfl) (by kernel_rfl) (fun _ _ _ h => h) (Or.inl ⟨by rfl, ?_⟩) (by assumption) ?_
          rotate_left 1
          · (intro w' hSw; obtain ⟨s0, s1, s2⟩ := hSw; go_simp); try with_reducible rfl
          try simp only [Act.put, List.setIfInBounds_toArray, List.set_cons_zero, List.set_cons_succ, Nat.zero_add]
          refine wpAnyY_one0 (i := 11) rfl (by kernel_rfl) (by kernel_rfl) (fun K hK => ?_)
          go_simp
          refine hK.out _ _ ?_
          clear hK K
          try simp only [Act.put, List.setIfInBounds_toArray, List.set_cons_zero, List.set_cons_succ, Nat.zero_add]
          refine wpAnyY_done (by kernel_rfl) ?_ _
          go_upto_region 13 with fail
          clear hst t0 p0 p1 HM4 HN4 HT4
          have p0 := HM5.out.web.blk.cell 0
          have n0 := HN5.out.cell 0
          have n1 := HN5.out.cell 1
          have n2 := HN5.out.cell 2
          have n3 := HN5.out.cell 3
          have n4 := HN5.out.cell 4
          have n5 := HN5.out.cell 5
          have n6 := HN5.out.cell 6
          have n7 := HN5.out.cell 7
          have n8 := HN5.out.cell 8
          simp at p0 n0 n1 n2 n3 n4 n5 n6 n7 n8
          have HZ : Hid (∃ z : PN, z.cells = [.int .i64 x, .string y, .int .i64 m, .slice none 0 0, .int .i64 ll, .int .i64 (-1), .int .i64 x, .int .i64 0, .int .i64 0] ∧ z.av = .slice none 0 0 ∧ z.args = [] ∧ z = newHole x ll) := Lib.hid ⟨_, by rw [HNY.out.1, HNY.out.2]; rfl, rfl, rfl, rfl⟩
          refine wp_region_Y (S := (fun w' : World => w'.cell? ⟨p, 0, none⟩ = some (.slice Av ll cv) ∧ w'.cell? ⟨qn, 0, none⟩ = some (.int .i64 x) ∧ w'.cell? ⟨qn, 1, none⟩ = some (.string y) ∧ w'.cell? ⟨qn, 2, none⟩ = some (.int .i64 m) ∧ w'.cell? ⟨qn, 3, none⟩ = some (.slice none 0 0) ∧ w'.cell? ⟨qn, 4, none⟩ = some (.int .i64 ll) ∧ w'.cell? ⟨qn, 5, none⟩ = some (.int .i64 (-1)) ∧ w'.cell? ⟨qn, 6, none⟩ = some (.int .i64 x) ∧ w'.cell? ⟨qn, 7, none⟩ = some (.int .i64 0) ∧ w'.cell? ⟨qn, 8, none⟩ = some (.int .i64 0))) 10 (by kernel_rfl) (⟨p0, n0, n1, n2, n3, n4, n5, n6, n7, n8⟩) (fun hHeld => ?_)
          refine wpAnyY_take (i := 0) (v := ?_) rfl (by kernel_rfl) (by kernel_rfl) (by kernel_rfl) (by kernel_rfl) (fun _ _ _ h => h) (Or.inl ⟨by rfl, ?_⟩) (by assumption) ?_
          rotate_left 1
          · (intro w' hSw; obtain ⟨s0, s1, s2, s3, s4, s5, s6, s7, s8, s9⟩ := hSw; go_simp); try with_reducible rfl
          try simp only [Act.put, List.setIfInBounds_toArray, List.set_cons_zero, List.set_cons_succ, Nat.zero_add]
          refine wpAnyY_take (i := 1) (v := ?_) rfl (by kernel_rfl) (by kernel_rfl) (by kernel_rfl) (by kernel_rfl) (fun _ _ _ h => h) (Or.inl ⟨by rfl, ?_⟩) (by assumption) ?_
          rotate_left 1
          · (intro w' hSw; obtain ⟨s0, s1, s2, s3, s4, s5, s6, s7, s8, s9⟩ := hSw; go_simp); try with_reducible rfl
          try simp only [Act.put, List.setIfInBounds_toArray, List.set_cons_zero, List.set_cons_succ, Nat.zero_add]
          refine wpAnyY_take (i := 2) (v := ?_) rfl (by kernel_rfl) (by kernel_rfl) (by kernel_rfl) (by kernel_rfl) (fun _ _ _ h => h) (Or.inl ⟨by rfl, ?_⟩) (by assumption) ?_
          rotate_left 1
          · (intro w' hSw; obtain ⟨s0, s1, s2, s3, s4, s5, s6, s7, s8, s9⟩ := hSw; go_simp); try with_reducible rfl
          try simp only [Act.put, List.setIfInBounds_toArray, List.set_cons_zero, List.set_cons_succ, Nat.zero_add]
          refine wpAnyY_take (i := 3) (v := ?_) rfl (by kernel_rfl) (by kernel_rfl) (by kernel_rfl) (by kernel_rfl) (fun _ _ _ h => h) (Or.inl ⟨by rfl, ?_⟩) (by assumption) ?_
          rotate_left 1
          · (intro w' hSw; obtain ⟨s0, s1, s2, s3, s4, s5, s6, s7, s8, s9⟩ := hSw; go_simp); try with_reducible rfl
          try simp only [Act.put, List.setIfInBounds_toArray, List.set_cons_zero, List.set_cons_succ, Nat.zero_add]
          refine wpAnyY_take (i := 4) (v := ?_) rfl (by kernel_rfl) (by kernel_rfl) (by kernel_rfl) (by kernel_rfl) (fun _ _ _ h => h) (Or.inl ⟨by rfl, ?_⟩) (by assumption) ?_
          rotate_left 1
          · (intro w' hSw; obtain ⟨s0, s1, s2, s3, s4, s5, s6, s7, s8, s9⟩ := hSw; go_simp); try with_reducible rfl
          try simp only [Act.put, List.setIfInBounds_toArray, List.set_cons_zero, List.set_cons_succ, Nat.zero_add]
          refine wpAnyY_take (i := 5) (v := ?_) rfl (by kernel_rfl) (by kernel_rfl) (by kernel_rfl) (by kernel_rfl) (fun _ _ _ h => h) (Or.inl ⟨by rfl, ?_⟩) (by assumption) ?_
          rotate_left 1
          · (intro w' hSw; obtain ⟨s0, s1, s2, s3, s4, s5, s6, s7, s8, s9⟩ := hSw; go_simp); try with_reducible rfl
          try simp only [Act.put, List.setIfInBounds_toArray, List.set_cons_zero, List.set_cons_succ, Nat.zero_add]
          refine wpAnyY_one (i := 6) rfl (by kernel_rfl) (fun K hK => ?_)
          go_simp
          obtain ⟨u6, hu6⟩ : ∃ q : World, (World.alloc u5 (Obj.cells #[.int .i64 x, .string y, .int .i64 m, .slice none 0 0, .int .i64 ll, .int .i64 (-1), .int .i64 x, .int .i64 0, .int .i64 0] 103)).drew = q := ⟨_, rfl⟩
          rw [hu6]
          have HM6 : Hid (LayM w B p mb lv0 tv td w.heap.size (w.heap.size + 1) (.slice (some ⟨b, off, none⟩) n c) u6 (.slice Av ll cv) l (hm ++ [(x, ll)]) (atL.set i ll)) := Lib.hid (by rw [← hu6]; exact (HM5.out.alloc _).drew)
          have HN6 : Hid (Blk u6 qn 103 #[.int .i64 x, .string y, .int .i64 m, .slice none 0 0, .int .i64 ll, .int .i64 (-1), .int .i64 x, .int .i64 0, .int .i64 0]) := Lib.hid (by rw [← hu6]; exact (HN5.out.alloc _).drew)
          have HNEW := Lib.hid (news_cells (Blk.drew (Blk.new u5 103 #[.int .i64 x, .string y, .int .i64 m, .slice none 0 0, .int .i64 ll, .int .i64 (-1), .int .i64 x, .int .i64 0, .int .i64 0])))
          rw [hu6] at HNEW
          clear hu6 HM5 HN5
          have p0 := HM6.out.web.blk.cell 0
          have n0 := HN6.out.cell 0
          have n1 := HN6.out.cell 1
          have n2 := HN6.out.cell 2
          have n3 := HN6.out.cell 3
          have n4 := HN6.out.cell 4
          have n5 := HN6.out.cell 5
          have n6 := HN6.out.cell 6
          have n7 := HN6.out.cell 7
          have n8 := HN6.out.cell 8
          simp at p0 n0 n1 n2 n3 n4 n5 n6 n7 n8
          have hH6 : (fun w' : World => w'.cell? ⟨p, 0, none⟩ = some (.slice Av ll cv) ∧ w'.cell? ⟨qn, 0, none⟩ = some (.int .i64 x) ∧ w'.cell? ⟨qn, 1, none⟩ = some (.string y) ∧ w'.cell? ⟨qn, 2, none⟩ = some (.int .i64 m) ∧ w'.cell? ⟨qn, 3, none⟩ = some (.slice none 0 0) ∧ w'.cell? ⟨qn, 4, none⟩ = some (.int .i64 ll) ∧ w'.cell? ⟨qn, 5, none⟩ = some (.int .i64 (-1)) ∧ w'.cell? ⟨qn, 6, none⟩ = some (.int .i64 x) ∧ w'.cell? ⟨qn, 7, none⟩ = some (.int .i64 0) ∧ w'.cell? ⟨qn, 8, none⟩ = some (.int .i64 0)) u6 := ⟨p0, n0, n1, n2, n3, n4, n5, n6, n7, n8⟩
          refine hK.out _ _ (fun _ => hH6) ?_
          clear hK K
          try simp only [Act.put, List.setIfInBounds_toArray, List.set_cons_zero, List.set_cons_succ, Nat.zero_add]
          refine wpAnyY_one (i := 7) rfl (by kernel_rfl) (fun K hK => ?_)
          refine step_append_from (P := Tryd.prog) u6 (by rfl) (.tmp 96) (.tmp 98) 83 (by rfl) B 103 Tryd.underlying83 node_info15 rfl (by omega) (.slice Av ll cv) l.length (l.flatMap PN.cells) (by rfl) HM6.out.web.nodes.row (some ⟨u5.heap.size, 0, none⟩) 1 1 #[.int .i64 x, .string y, .int .i64 m, .slice none 0 0, .int .i64 ll, .int .i64 (-1), .int .i64 x, .int .i64 0, .int .i64 0].toList (by rfl) (by rfl) (by simp) (fun ad e => by cases e; exact HNEW.out) (fun u hu => by simp only [List.mem_cons, List.not_mem_nil, or_false] at hu; rcases hu with rfl | rfl | rfl | rfl | rfl | rfl | rfl | rfl | rfl <;> rfl) (by rw [HLL.out]; unfold maxLen; omega) (by rw [HLL.out]; omega) (by have := HM6.out.kb.size; omega) ?_
          intro A7 c7 w7 own7 hg7 hat7
          rw [HLL.out] at own7 hat7
          (try rw [HLL.out])
          obtain ⟨z, hz1, hz2, hz3, hz4⟩ := HZ.out
          have HM8 : Hid (LayM w B p mb lv0 tv td w.heap.size (w.heap.size + 1) (.slice (some ⟨b, off, none⟩) n c) (w7.setCell ⟨p, 0, none⟩ (.slice A7 (ll + 1) c7)) (.slice A7 (ll + 1) c7) (l ++ [z]) (hm ++ [(x, ll)]) (atL.set i ll)) := Lib.hid (HM6.out.push ⟨hz2, hz3⟩ hg7 (by rw [HLL.out, hz1]; exact own7) hat7)
          have HB7 : Hid (Blk w7 p 86 #[.slice Av ll cv, .map (some mb), tv]) := Lib.hid (HM6.out.web.blk.grown hg7 (fun e => own_ne_blkX HM6.out.web.nodes.row HM6.out.web.blk (by decide) e.symm))
          have HN7 : Hid (Blk w7 qn 103 #[.int .i64 x, .string y, .int .i64 m, .slice none 0 0, .int .i64 ll, .int .i64 (-1), .int .i64 x, .int .i64 0, .int .i64 0]) := Lib.hid (HN6.out.grown hg7 (fun e => HQN.out.2 e.symm))
          have HZ4 := Lib.hid hz4
          clear own7 hg7 hat7 hz1 hz2 hz3 hz4 HM6 HN6 HNEW hH6
          have p0 := HB7.out.cell 0; have p0f := HB7.out.frozen 0
          have n0 := HN7.out.cell 0
          have n1 := HN7.out.cell 1
          have n2 := HN7.out.cell 2
          have n3 := HN7.out.cell 3
          have n4 := HN7.out.cell 4
          have n5 := HN7.out.cell 5
          have n6 := HN7.out.cell 6
          have n7 := HN7.out.cell 7
          have n8 := HN7.out.cell 8
          simp at p0 n0 n1 n2 n3 n4 n5 n6 n7 n8
          have hH7 : (fun w' : World => w'.cell? ⟨p, 0, none⟩ = some (.slice Av ll cv) ∧ w'.cell? ⟨qn, 0, none⟩ = some (.int .i64 x) ∧ w'.cell? ⟨qn, 1, none⟩ = some (.string y) ∧ w'.cell? ⟨qn, 2, none⟩ = some (.int .i64 m) ∧ w'.cell? ⟨qn, 3, none⟩ = some (.slice none 0 0) ∧ w'.cell? ⟨qn, 4, none⟩ = some (.int .i64 ll) ∧ w'.cell? ⟨qn, 5, none⟩ = some (.int .i64 (-1)) ∧ w'.cell? ⟨qn, 6, none⟩ = some (.int .i64 x) ∧ w'.cell? ⟨qn, 7, none⟩ = some (.int .i64 0) ∧ w'.cell? ⟨qn, 8, none⟩ = some (.int .i64 0)) w7 := ⟨p0, n0, n1, n2, n3, n4, n5, n6, n7, n8⟩
          refine hK.out _ _ (fun _ => hH7) ?_
          clear hK K
          try simp only [Act.put, List.setIfInBounds_toArray, List.set_cons_zero, List.set_cons_succ, Nat.zero_add]
          refine wpAnyY_take0 (i := 8) (v := ?_) rfl (by kernel_rfl) (by kernel_rfl) (by kernel_rfl) (by kernel_rfl) (fun _ _ _ h => h) (Or.inl ⟨by rfl, ?_⟩) ?_
          rotate_left 1
          · (intro w' _; go_simp); try with_reducible rfl
          try simp only [Act.put, List.setIfInBounds_toArray, List.set_cons_zero, List.set_cons_succ, Nat.zero_add]
          refine wpAnyY_take (i := 9) (v := ?_) rfl (by kernel_rfl) (by kernel_rfl) (by kernel_rfl) (by kernel_rfl) (fun _ _ _ h => h) (Or.inl ⟨by rfl, ?_⟩) (by assumption) ?_
          rotate_left 1
          · (intro w' hSw; obtain ⟨s0, s1, s2, s3, s4, s5, s6, s7, s8, s9⟩ := hSw; go_simp); try with_reducible rfl
          try simp only [Act.put, List.setIfInBounds_toArray, List.set_cons_zero, List.set_cons_succ, Nat.zero_add]
          refine wpAnyY_one0 (i := 10) rfl (by kernel_rfl) (by kernel_rfl) (fun K hK => ?_)
          go_simp
          refine hK.out _ _ ?_
          clear hK K
          try simp only [Act.put, List.setIfInBounds_toArray, List.set_cons_zero, List.set_cons_succ, Nat.zero_add]
          refine wpAnyY_done (by kernel_rfl) ?_ _
          clear p0 p0f hH7 n0 n1 n2 n3 n4 n5 n6 n7 n8
          obtain ⟨w8, hw8⟩ : ∃ q, w7.setCell ⟨p, 0, none⟩ (.slice A7 (ll + 1) c7) = q := ⟨_, rfl⟩
          rw [hw8] at HM8
          try rw [hw8]
          clear hw8 HB7 HN7
          go_wp2_with fail
          go_roundg (n - (i + 1))
          case measure => omega
          case rel =>
            refine ⟨i + 1, .slice A7 (ll + 1) c7, l ++ [z], _, atL.set i ll, by go_num, rfl, by omega, HM8.out, ?_, by rw [List.length_set]; exact HAL.out, by have := HHL.out; (try simp only [List.length_append, List.length_cons, List.length_nil]); omega⟩
            rw [take_set_snoc (by rw [HAL.out]; exact hlt), HZ4.out]
            have := HL.out.hole hlt2 (by rw [HX.out]; omega) (by rw [HX.out, Int.toNat_natCast]; exact HNK.out) (fun q hq => (HIN.out.bd q hq).1)
            rw [HX.out, Int.toNat_natCast, HLL.out] at this
            exact this
      · have hh : ¬ ∃ kk, (x, kk) ∈ hm := fun ⟨kk, h⟩ => hx0 (HL.out.pos HIN.out h).1
        have hbf : hasM (holeVals hm) (x : Int) = false := by
          cases e : hasM (holeVals hm) (x : Int) with
          | false => rfl
          | true => exact absurd (hasM_vals.1 e) hh
        have hlz : lookM (.int .i64 0) (holeVals hm) (x : Int) = .int .i64 0 := lookM_not fun q hq e => by
          obtain ⟨⟨a, b⟩, h1, rfl⟩ := List.mem_map.1 hq
          have e : (a : Int) = x := e
          exact hh ⟨b, by rw [show a = x by omega] at h1; exact h1⟩
        rw [hbf, hlz] at hlk
        have HNK : Hid (∀ kk, (x, kk) ∉ hm) := Lib.hid (fun kk h => hh ⟨kk, h⟩)
        clear hbf hlz hh
        have g1 : ¬ (0 : Int) < x := by omega
        go_quiet (fail)
        clear hlk p1 t0
        obtain ⟨u1, hu1⟩ : ∃ q, u.drewN nq = q := ⟨_, rfl⟩
        have HM1 : Hid (LayM w B p mb lv0 tv td w.heap.size (w.heap.size + 1) (.slice (some ⟨b, off, none⟩) n c) u1 lv l hm atL) := Lib.hid (by rw [← hu1]; exact HMU.out.drewN nq)
        have HT1 : Hid (Blk u1 qt 58 #[.int .i64 x, .string y, .slice S m k]) := Lib.hid (by rw [← hu1]; exact HTU.out.drewN nq)
        try rw [hu1]
        clear hu1 HMU HTU
        obtain ⟨Av, cv, rfl⟩ := HM1.out.web.nodes.shape
        obtain ⟨ll, hll⟩ : ∃ ll, l.length = ll := ⟨_, rfl⟩
        have HLL := Lib.hid hll
        have hlb : ll ≤ 549755814144 := by rw [← hll]; have := HL.out.grow.2; omega
        rw [hll] at HM1
        (try rw [hll])
        clear hll
        have t0 := HT1.out.cell 0
        have p0 := HM1.out.web.blk.cell 0
        simp at t0 p0
        have hali : i < atL.length := by rw [HAL.out]; exact hlt
        obtain ⟨z, a0⟩ : ∃ z : Nat, u1.cell? ⟨w.heap.size + 1, i, none⟩ = some (.int .i64 z) := ⟨_, HM1.out.row.cell hali⟩
        have af := Blk.frozen HM1.out.row i
        clear hali
        go_upto_region 9 with fail
        clear t0 p0 a0 af
        obtain ⟨u2, hu2⟩ : ∃ q, u1.setCell ⟨w.heap.size + 1, i, none⟩ (.int .i64 ll) = q := ⟨_, rfl⟩
        have HM2 : Hid (LayM w B p mb lv0 tv td w.heap.size (w.heap.size + 1) (.slice (some ⟨b, off, none⟩) n c) u2 (.slice Av ll cv) l hm (atL.set i ll)) := Lib.hid (by rw [← hu2]; exact HM1.out.store i ll)
        have HT2 : Hid (Blk u2 qt 58 #[.int .i64 x, .string y, .slice S m k]) := Lib.hid (by rw [← hu2]; exact HT1.out.far (p := ⟨w.heap.size + 1, i, none⟩) (blk_ne HT1.out HM1.out.row (by decide)) _)
        try rw [hu2]
        clear hu2 HM1 HT1
        have t0 := HT2.out.cell 0; have t1 := HT2.out.cell 1; have t2 := HT2.out.cell 2
        have p0 := HM2.out.web.blk.cell 0
        simp at t0 t1 t2 p0
        have HQB : Hid (qt < u2.heap.size ∧ p < u2.heap.size) := Lib.hid ⟨HT2.out.lt, HM2.out.web.blk.lt⟩
        refine wp_region_Y (S := (fun w' : World => w'.cell? ⟨p, 0, none⟩ = some (.slice Av ll cv) ∧ w'.cell? ⟨qt, 0, none⟩ = some (.int .i64 x) ∧ w'.cell? ⟨qt, 1, none⟩ = some (.string y) ∧ w'.cell? ⟨qt, 2, none⟩ = some (.slice S m k))) 22 (by kernel_rfl) (⟨p0, t0, t1, t2⟩) (fun hHeld => ?_)
        refine wpAnyY_take (i := 0) (v := ?_) rfl (by kernel_rfl) (by kernel_rfl) (by kernel_rfl) (by kernel_rfl) (fun _ _ _ h => h) (Or.inl ⟨by rfl, ?_⟩) (by assumption) ?_
        rotate_left 1
        · (intro w' hSw; obtain ⟨s0, s1, s2, s3⟩ := hSw; go_simp); try with_reducible rfl
        try simp only [Act.put, List.setIfInBounds_toArray, List.set_cons_zero, List.set_cons_succ, Nat.zero_add]
        refine wpAnyY_take (i := 1) (v := ?_) rfl (by kernel_rfl) (by kernel_rfl) (by kernel_rfl) (by kernel_rfl) (fun _ _ _ h => h) (Or.inl ⟨by rfl, ?_⟩) (by assumption) ?_
        rotate_left 1
        · (intro w' hSw; obtain ⟨s0, s1, s2, s3⟩ := hSw; go_simp); try with_reducible rfl
        try simp only [Act.put, List.setIfInBounds_toArray, List.set_cons_zero, List.set_cons_succ, Nat.zero_add]
        refine wpAnyY_take (i := 2) (v := ?_) rfl (by kernel_rfl) (by kernel_rfl) (by kernel_rfl) (by kernel_rfl) (fun _ _ _ h => h) (Or.inl ⟨by rfl, ?_⟩) (by assumption) ?_
        rotate_left 1
        · (intro w' hSw; obtain ⟨s0, s1, s2, s3⟩ := hSw; go_simp); try with_reducible rfl
        try simp only [Act.put, List.setIfInBounds_toArray, List.set_cons_zero, List.set_cons_succ, Nat.zero_add]
        refine wpAnyY_take (i := 3) (v := ?_) rfl (by kernel_rfl) (by kernel_rfl) (by kernel_rfl) (by kernel_rfl) (fun _ _ _ h => h) (Or.inl ⟨by rfl, ?_⟩) (by assumption) ?_
        rotate_left 1
        · (intro w' hSw; obtain ⟨s0, s1, s2, s3⟩ := hSw; go_simp); try with_reducible rfl
        try simp only [Act.put, List.setIfInBounds_toArray, List.set_cons_zero, List.set_cons_succ, Nat.zero_add]
        refine wpAnyY_take (i := 4) (v := ?_) rfl (by kernel_rfl) (by kernel_rfl) (by kernel_rfl) (by kernel_rfl) (fun _ _ _ h => h) (Or.inl ⟨by rfl, ?_⟩) (by assumption) ?_
        rotate_left 1
        · (intro w' hSw; obtain ⟨s0, s1, s2, s3⟩ := hSw; go_simp); try with_reducible rfl
        try simp only [Act.put, List.setIfInBounds_toArray, List.set_cons_zero, List.set_cons_succ, Nat.zero_add]
        refine wpAnyY_take (i := 5) (v := ?_) rfl (by kernel_rfl) (by kernel_rfl) (by kernel_rfl) (by kernel_rfl) (fun _ _ _ h => h) (Or.inl ⟨by rfl, ?_⟩) (by assumption) ?_
        rotate_left 1
        · (intro w' hSw; obtain ⟨s0, s1, s2, s3⟩ := hSw; go_simp); try with_reducible rfl
        try simp only [Act.put, List.setIfInBounds_toArray, List.set_cons_zero, List.set_cons_succ, Nat.zero_add]
        refine wpAnyY_take (i := 6) (v := ?_) rfl (by kernel_rfl) (by kernel_rfl) (by kernel_rfl) (by kernel_rfl) (fun _ _ _ h => h) (Or.inl ⟨by rfl, ?_⟩) (by assumption) ?_
        rotate_left 1
        · (intro w' hSw; obtain ⟨s0, s1, s2, s3⟩ := hSw; go_simp); try with_reducible rfl
        try simp only [Act.put, List.setIfInBounds_toArray, List.set_cons_zero, List.set_cons_succ, Nat.zero_add]
        refine wpAnyY_take (i := 7) (v := ?_) rfl (by kernel_rfl) (by kernel_rfl) (by kernel_rfl) (by kernel_rfl) (fun _ _ _ h => h) (Or.inl ⟨by rfl, ?_⟩) (by assumption) ?_
        rotate_left 1
        · (intro w' hSw; obtain ⟨s0, s1, s2, s3⟩ := hSw; go_simp); try with_reducible rfl
        try simp only [Act.put, List.setIfInBounds_toArray, List.set_cons_zero, List.set_cons_succ, Nat.zero_add]
        refine wpAnyY_take (i := 8) (v := ?_) rfl (by kernel_rfl) (by kernel_rfl) (by kernel_rfl) (by kernel_rfl) (fun _ _ _ h => h) (Or.inl ⟨by rfl, ?_⟩) (by assumption) ?_
        rotate_left 1
        · (intro w' hSw; obtain ⟨s0, s1, s2, s3⟩ := hSw; go_simp); try with_reducible rfl
        try simp only [Act.put, List.setIfInBounds_toArray, List.set_cons_zero, List.set_cons_succ, Nat.zero_add]
        refine wpAnyY_take (i := 9) (v := ?_) rfl (by kernel_rfl) (by kernel_rfl) (by kernel_rfl) (by kernel_rfl) (fun _ _ _ h => h) (Or.inl ⟨by rfl, ?_⟩) (by assumption) ?_
        rotate_left 1
        · (intro w' hSw; obtain ⟨s0, s1, s2, s3⟩ := hSw; go_simp); try with_reducible rfl
        try simp only [Act.put, List.setIfInBounds_toArray, List.set_cons_zero, List.set_cons_succ, Nat.zero_add]
        refine wpAnyY_take (i := 10) (v := ?_) rfl (by kernel_rfl) (by kernel_rfl) (by kernel_rfl) (by kernel_rfl) (fun _ _ _ h => h) (Or.inl ⟨by rfl, ?_⟩) (by assumption) ?_
        rotate_left 1
        · (intro w' hSw; obtain ⟨s0, s1, s2, s3⟩ := hSw; go_simp); try with_reducible rfl
        try simp only [Act.put, List.setIfInBounds_toArray, List.set_cons_zero, List.set_cons_succ, Nat.zero_add]
        refine wpAnyY_take (i := 11) (v := ?_) rfl (by kernel_rfl) (by kernel_rfl) (by kernel_rfl) (by kernel_rfl) (fun _ _ _ h => h) (Or.inl ⟨by rfl, ?_⟩) (by assumption) ?_
        rotate_left 1
        · (intro w' hSw; obtain ⟨s0, s1, s2, s3⟩ := hSw; go_simp); try with_reducible rfl
        try simp only [Act.put, List.setIfInBounds_toArray, List.set_cons_zero, List.set_cons_succ, Nat.zero_add]
        refine wpAnyY_take (i := 12) (v := ?_) rfl (by kernel_rfl) (by kernel_rfl) (by kernel_rfl) (by kernel_rfl) (fun _ _ _ h => h) (Or.inl ⟨by rfl, ?_⟩) (by assumption) ?_
        rotate_left 1
        · (intro w' hSw; obtain ⟨s0, s1, s2, s3⟩ := hSw; go_simp); try with_reducible rfl
        try simp only [Act.put, List.setIfInBounds_toArray, List.set_cons_zero, List.set_cons_succ, Nat.zero_add]
        refine wpAnyY_take (i := 13) (v := ?_) rfl (by kernel_rfl) (by kernel_rfl) (by kernel_rfl) (by kernel_rfl) (fun _ _ _ h => h) (Or.inl ⟨by rfl, ?_⟩) (by assumption) ?_
        rotate_left 1
        · (intro w' hSw; obtain ⟨s0, s1, s2, s3⟩ := hSw; go_simp); try with_reducible rfl
        try simp only [Act.put, List.setIfInBounds_toArray, List.set_cons_zero, List.set_cons_succ, Nat.zero_add]
        refine wpAnyY_take (i := 14) (v := ?_) rfl (by kernel_rfl) (by kernel_rfl) (by kernel_rfl) (by kernel_rfl) (fun _ _ _ h => h) (Or.inl ⟨by rfl, ?_⟩) (by assumption) ?_
        rotate_left 1
        · (intro w' hSw; obtain ⟨s0, s1, s2, s3⟩ := hSw; go_simp); try with_reducible rfl
        try simp only [Act.put, List.setIfInBounds_toArray, List.set_cons_zero, List.set_cons_succ, Nat.zero_add]
        refine wpAnyY_take (i := 15) (v := ?_) rfl (by kernel_rfl) (by kernel_rfl) (by kernel_rfl) (by kernel_rfl) (fun _ _ _ h => h) (Or.inl ⟨by rfl, ?_⟩) (by assumption) ?_
        rotate_left 1
        · (intro w' hSw; obtain ⟨s0, s1, s2, s3⟩ := hSw; go_simp); try with_reducible rfl
        try simp only [Act.put, List.setIfInBounds_toArray, List.set_cons_zero, List.set_cons_succ, Nat.zero_add]
        refine wpAnyY_take (i := 16) (v := ?_) rfl (by kernel_rfl) (by kernel_rfl) (by kernel_rfl) (by kernel_rfl) (fun _ _ _ h => h) (Or.inl ⟨by rfl, ?_⟩) (by assumption) ?_
        rotate_left 1
        · (intro w' hSw; obtain ⟨s0, s1, s2, s3⟩ := hSw; go_simp); try with_reducible rfl
        try simp only [Act.put, List.setIfInBounds_toArray, List.set_cons_zero, List.set_cons_succ, Nat.zero_add]
        refine wpAnyY_take (i := 17) (v := ?_) rfl (by kernel_rfl) (by kernel_rfl) (by kernel_rfl) (by kernel_rfl) (fun _ _ _ h => h) (Or.inl ⟨by rfl, ?_⟩) (by assumption) ?_
        rotate_left 1
        · (intro w' hSw; obtain ⟨s0, s1, s2, s3⟩ := hSw; go_simp); try with_reducible rfl
        try simp only [Act.put, List.setIfInBounds_toArray, List.set_cons_zero, List.set_cons_succ, Nat.zero_add]
        refine wpAnyY_take (i := 18) (v := ?_) rfl (by kernel_rfl) (by kernel_rfl) (by kernel_rfl) (by kernel_rfl) (fun _ _ _ h => h) (Or.inl ⟨by rfl, ?_⟩) (by assumption) ?_
        rotate_left 1
        · (intro w' hSw; obtain ⟨s0, s1, s2, s3⟩ := hSw; go_simp); try with_reducible rfl
        try simp only [Act.put, List.setIfInBounds_toArray, List.set_cons_zero, List.set_cons_succ, Nat.zero_add]
        refine wpAnyY_take (i := 19) (v := ?_) rfl (by kernel_rfl) (by kernel_rfl) (by kernel_rfl) (by kernel_rfl) (fun _ _ _ h => h) (Or.inl ⟨by rfl, ?_⟩) (by assumption) ?_
        rotate_left 1
        · (intro w' hSw; obtain ⟨s0, s1, s2, s3⟩ := hSw; go_simp); try with_reducible rfl
        try simp only [Act.put, List.setIfInBounds_toArray, List.set_cons_zero, List.set_cons_succ, Nat.zero_add]
        refine wpAnyY_take (i := 20) (v := ?_) rfl (by kernel_rfl) (by kernel_rfl) (by kernel_rfl) (by kernel_rfl) (fun _ _ _ h => h) (Or.inl ⟨by rfl, ?_⟩) (by assumption) ?_
        rotate_left 1
        · (intro w' hSw; obtain ⟨s0, s1, s2, s3⟩ := hSw; go_simp); try with_reducible rfl
        try simp only [Act.put, List.setIfInBounds_toArray, List.set_cons_zero, List.set_cons_succ, Nat.zero_add]
        refine wpAnyY_one (i := 21) rfl (by kernel_rfl) (fun K hK => ?_)
        go_simp
        refine hK.out _ _ (fun _ => ⟨?_, ?_, ?_, ?_⟩) ?_
        · exact (cell_alloc HQB.out.2 _ _).trans p0
        · exact (cell_alloc HQB.out.1 _ _).trans t0
        · exact (cell_alloc HQB.out.1 _ _).trans t1
        · exact (cell_alloc HQB.out.1 _ _).trans t2
        clear hK K
        try simp only [Act.put, List.setIfInBounds_toArray, List.set_cons_zero, List.set_cons_succ, Nat.zero_add]
        refine wpAnyY_one0 (i := 22) rfl (by kernel_rfl) (by kernel_rfl) (fun K hK => ?_)
        go_simp
        refine hK.out _ _ ?_
        clear hK K
        try simp only [Act.put, List.setIfInBounds_toArray, List.set_cons_zero, List.set_cons_succ, Nat.zero_add]
        refine wpAnyY_done (by kernel_rfl) ?_ _
        obtain ⟨u3, hu3⟩ : ∃ q : World, (u2.alloc (.cells #[.int .i64 x, .string y, .int .i64 m, .slice none 0 0, .int .i64 ll, .int .i64 ll, .int .i64 x, .int .i64 0, .int .i64 0] 103)).drew = q := ⟨_, rfl⟩
        obtain ⟨qn, hqn⟩ : ∃ q, u2.heap.size = q := ⟨_, rfl⟩
        have HM3 : Hid (LayM w B p mb lv0 tv td w.heap.size (w.heap.size + 1) (.slice (some ⟨b, off, none⟩) n c) u3 (.slice Av ll cv) l hm (atL.set i ll)) := Lib.hid (by rw [← hu3]; exact (HM2.out.alloc _).drew)
        have HT3 : Hid (Blk u3 qt 58 #[.int .i64 x, .string y, .slice S m k]) := Lib.hid (by rw [← hu3]; exact (HT2.out.alloc _).drew)
        have HN3 : Hid (Blk u3 qn 103 #[.int .i64 x, .string y, .int .i64 m, .slice none 0 0, .int .i64 ll, .int .i64 ll, .int .i64 x, .int .i64 0, .int .i64 0]) := Lib.hid (by rw [← hu3]; exact (Blk.new' hqn.symm).drew)
        have HQN : Hid (w.heap.size ≤ qn ∧ (Value.slice Av ll cv).ownBlock ≠ some qn) := Lib.hid ⟨by have := HM2.out.kb.size; omega, fun e => by have := (HM2.out.web.nodes.lt _ e).2; omega⟩
        try rw [hu3]
        try rw [hqn]
        clear hu3 hqn HM2 HT2 t0 t1 t2 p0 HQB
        have t0 := HT3.out.cell 0
        simp at t0
        go_upto_region 13 with fail
        have HM5 := HM3; have HN5 := HN3
        clear HM3 HN3 HT3 t0
        have p0 := HM5.out.web.blk.cell 0
        have n0 := HN5.out.cell 0
        have n1 := HN5.out.cell 1
        have n2 := HN5.out.cell 2
        have n3 := HN5.out.cell 3
        have n4 := HN5.out.cell 4
        have n5 := HN5.out.cell 5
        have n6 := HN5.out.cell 6
        have n7 := HN5.out.cell 7
        have n8 := HN5.out.cell 8
        simp at p0 n0 n1 n2 n3 n4 n5 n6 n7 n8
        have HZ : Hid (∃ z : PN, z.cells = [.int .i64 x, .string y, .int .i64 m, .slice none 0 0, .int .i64 ll, .int .i64 ll, .int .i64 x, .int .i64 0, .int .i64 0] ∧ z.av = .slice none 0 0 ∧ z.args = [] ∧ z = newApp ts[i] ll) := Lib.hid ⟨_, by have e0 : x = 0 := Nat.eq_zero_of_not_pos hx0; unfold newApp PN.cells; rw [HY.out, HMM.out, e0]; rfl, rfl, rfl, rfl⟩
        refine wp_region_Y (S := (fun w' : World => w'.cell? ⟨p, 0, none⟩ = some (.slice Av ll cv) ∧ w'.cell? ⟨qn, 0, none⟩ = some (.int .i64 x) ∧ w'.cell? ⟨qn, 1, none⟩ = some (.string y) ∧ w'.cell? ⟨qn, 2, none⟩ = some (.int .i64 m) ∧ w'.cell? ⟨qn, 3, none⟩ = some (.slice none 0 0) ∧ w'.cell? ⟨qn, 4, none⟩ = some (.int .i64 ll) ∧ w'.cell? ⟨qn, 5, none⟩ = some (.int .i64 ll) ∧ w'.cell? ⟨qn, 6, none⟩ = some (.int .i64 x) ∧ w'.cell? ⟨qn, 7, none⟩ = some (.int .i64 0) ∧ w'.cell? ⟨qn, 8, none⟩ = some (.int .i64 0))) 10 (by kernel_rfl) (⟨p0, n0, n1, n2, n3, n4, n5, n6, n7, n8⟩) (fun hHeld => ?_)
        refine wpAnyY_take (i := 0) (v := ?_) rfl (by kernel_rfl) (by kernel_rfl) (by kernel_rfl) (by kernel_rfl) (fun _ _ _ h => h) (Or.inl ⟨by rfl, ?_⟩) (by assumption) ?_
        rotate_left 1
        · (intro w' hSw; obtain ⟨s0, s1, s2, s3, s4, s5, s6, s7, s8, s9⟩ := hSw; go_simp); try with_reducible rfl
        try simp only [Act.put, List.setIfInBounds_toArray, List.set_cons_zero, List.set_cons_succ, Nat.zero_add]
        refine wpAnyY_take (i := 1) (v := ?_) rfl (by kernel_rfl) (by kernel_rfl) (by kernel_rfl) (by kernel_rfl) (fun _ _ _ h => h) (Or.inl ⟨by rfl, ?_⟩) (by assumption) ?_
        rotate_left 1
        · (intro w' hSw; obtain ⟨s0, s1, s2, s3, s4, s5, s6, s7, s8, s9⟩ := hSw; go_simp); try with_reducible rfl
        try simp only [Act.put, List.setIfInBounds_toArray, List.set_cons_zero, List.set_cons_succ, Nat.zero_add]
        refine wpAnyY_take (i := 2) (v := ?_) rfl (by kernel_rfl) (by kernel_rfl) (by kernel_rfl) (by kernel_rfl) (fun _ _ _ h => h) (Or.inl ⟨by rfl, ?_⟩) (by assumption) ?_
        rotate_left 1
        · (intro w' hSw; obtain ⟨s0, s1, s2, s3, s4, s5, s6, s7, s8, s9⟩ := hSw; go_simp); try with_reducible rfl
        try simp only [Act.put, List.setIfInBounds_toArray, List.set_cons_zero, List.set_cons_succ, Nat.zero_add]
        refine wpAnyY_take (i := 3) (v := ?_) rfl (by kernel_rfl) (by kernel_rfl) (by kernel_rfl) (by kernel_rfl) (fun _ _ _ h => h) (Or.inl ⟨by rfl, ?_⟩) (by assumption) ?_
        rotate_left 1
        · (intro w' hSw; obtain ⟨s0, s1, s2, s3, s4, s5, s6, s7, s8, s9⟩ := hSw; go_simp); try with_reducible rfl
        try simp only [Act.put, List.setIfInBounds_toArray, List.set_cons_zero, List.set_cons_succ, Nat.zero_add]
        refine wpAnyY_take (i := 4) (v := ?_) rfl (by kernel_rfl) (by kernel_rfl) (by kernel_rfl) (by kernel_rfl) (fun _ _ _ h => h) (Or.inl ⟨by rfl, ?_⟩) (by assumption) ?_
        rotate_left 1
        · (intro w' hSw; obtain ⟨s0, s1, s2, s3, s4, s5, s6, s7, s8, s9⟩ := hSw; go_simp); try with_reducible rfl
        try simp only [Act.put, List.setIfInBounds_toArray, List.set_cons_zero, List.set_cons_succ, Nat.zero_add]
        refine wpAnyY_take (i := 5) (v := ?_) rfl (by kernel_rfl) (by kernel_rfl) (by kernel_rfl) (by kernel_rfl) (fun _ _ _ h => h) (Or.inl ⟨by rfl, ?_⟩) (by assumption) ?_
        rotate_left 1
        · (intro w' hSw; obtain ⟨s0, s1, s2, s3, s4, s5, s6, s7, s8, s9⟩ := hSw; go_simp); try with_reducible rfl
        try simp only [Act.put, List.setIfInBounds_toArray, List.set_cons_zero, List.set_cons_succ, Nat.zero_add]
        refine wpAnyY_one (i := 6) rfl (by kernel_rfl) (fun K hK => ?_)
        go_simp
        obtain ⟨u6, hu6⟩ : ∃ q : World, (World.alloc u3 (Obj.cells #[.int .i64 x, .string y, .int .i64 m, .slice none 0 0, .int .i64 ll, .int .i64 ll, .int .i64 x, .int .i64 0, .int .i64 0] 103)).drew = q := ⟨_, rfl⟩
        rw [hu6]
        have HM6 : Hid (LayM w B p mb lv0 tv td w.heap.size (w.heap.size + 1) (.slice (some ⟨b, off, none⟩) n c) u6 (.slice Av ll cv) l hm (atL.set i ll)) := Lib.hid (by rw [← hu6]; exact (HM5.out.alloc _).drew)
        have HN6 : Hid (Blk u6 qn 103 #[.int .i64 x, .string y, .int .i64 m, .slice none 0 0, .int .i64 ll, .int .i64 ll, .int .i64 x, .int .i64 0, .int .i64 0]) := Lib.hid (by rw [← hu6]; exact (HN5.out.alloc _).drew)
        have HNEW := Lib.hid (news_cells (Blk.drew (Blk.new u3 103 #[.int .i64 x, .string y, .int .i64 m, .slice none 0 0, .int .i64 ll, .int .i64 ll, .int .i64 x, .int .i64 0, .int .i64 0])))
        rw [hu6] at HNEW
        clear hu6 HM5 HN5
        have p0 := HM6.out.web.blk.cell 0
        have n0 := HN6.out.cell 0
        have n1 := HN6.out.cell 1
        have n2 := HN6.out.cell 2
        have n3 := HN6.out.cell 3
        have n4 := HN6.out.cell 4
        have n5 := HN6.out.cell 5
        have n6 := HN6.out.cell 6
        have n7 := HN6.out.cell 7
        have n8 := HN6.out.cell 8
        simp at p0 n0 n1 n2 n3 n4 n5 n6 n7 n8
        have hH6 : (fun w' : World => w'.cell? ⟨p, 0, none⟩ = some (.slice Av ll cv) ∧ w'.cell? ⟨qn, 0, none⟩ = some (.int .i64 x) ∧ w'.cell? ⟨qn, 1, none⟩ = some (.string y) ∧ w'.cell? ⟨qn, 2, none⟩ = some (.int .i64 m) ∧ w'.cell? ⟨qn, 3, none⟩ = some (.slice none 0 0) ∧ w'.cell? ⟨qn, 4, none⟩ = some (.int .i64 ll) ∧ w'.cell? ⟨qn, 5, none⟩ = some (.int .i64 ll) ∧ w'.cell? ⟨qn, 6, none⟩ = some (.int .i64 x) ∧ w'.cell? ⟨qn, 7, none⟩ = some (.int .i64 0) ∧ w'.cell? ⟨qn, 8, none⟩ = some (.int .i64 0)) u6 := ⟨p0, n0, n1, n2, n3, n4, n5, n6, n7, n8⟩
        refine hK.out _ _ (fun _ => hH6) ?_
        clear hK K
        try simp only [Act.put, List.setIfInBounds_toArray, List.set_cons_zero, List.set_cons_succ, Nat.zero_add]
        refine wpAnyY_one (i := 7) rfl (by kernel_rfl) (fun K hK => ?_)
        refine step_append_from (P := Tryd.prog) u6 (by rfl) (.tmp 96) (.tmp 98) 83 (by rfl) B 103 Tryd.underlying83 node_info15 rfl (by omega) (.slice Av ll cv) l.length (l.flatMap PN.cells) (by rfl) HM6.out.web.nodes.row (some ⟨u3.heap.size, 0, none⟩) 1 1 #[.int .i64 x, .string y, .int .i64 m, .slice none 0 0, .int .i64 ll, .int .i64 ll, .int .i64 x, .int .i64 0, .int .i64 0].toList (by rfl) (by rfl) (by simp) (fun ad e => by cases e; exact HNEW.out) (fun u hu => by simp only [List.mem_cons, List.not_mem_nil, or_false] at hu; rcases hu with rfl | rfl | rfl | rfl | rfl | rfl | rfl | rfl | rfl <;> rfl) (by rw [HLL.out]; unfold maxLen; omega) (by rw [HLL.out]; omega) (by have := HM6.out.kb.size; omega) ?_
        intro A7 c7 w7 own7 hg7 hat7
        rw [HLL.out] at own7 hat7
        (try rw [HLL.out])
        obtain ⟨z, hz1, hz2, hz3, hz4⟩ := HZ.out
        have HM8 : Hid (LayM w B p mb lv0 tv td w.heap.size (w.heap.size + 1) (.slice (some ⟨b, off, none⟩) n c) (w7.setCell ⟨p, 0, none⟩ (.slice A7 (ll + 1) c7)) (.slice A7 (ll + 1) c7) (l ++ [z]) hm (atL.set i ll)) := Lib.hid (HM6.out.push ⟨hz2, hz3⟩ hg7 (by rw [HLL.out, hz1]; exact own7) hat7)
        have HB7 : Hid (Blk w7 p 86 #[.slice Av ll cv, .map (some mb), tv]) := Lib.hid (HM6.out.web.blk.grown hg7 (fun e => own_ne_blkX HM6.out.web.nodes.row HM6.out.web.blk (by decide) e.symm))
        have HN7 : Hid (Blk w7 qn 103 #[.int .i64 x, .string y, .int .i64 m, .slice none 0 0, .int .i64 ll, .int .i64 ll, .int .i64 x, .int .i64 0, .int .i64 0]) := Lib.hid (HN6.out.grown hg7 (fun e => HQN.out.2 e.symm))
        have HZ4 := Lib.hid hz4
        clear own7 hg7 hat7 hz1 hz2 hz3 hz4 HM6 HN6 HNEW hH6
        have p0 := HB7.out.cell 0; have p0f := HB7.out.frozen 0
        have n0 := HN7.out.cell 0
        have n1 := HN7.out.cell 1
        have n2 := HN7.out.cell 2
        have n3 := HN7.out.cell 3
        have n4 := HN7.out.cell 4
        have n5 := HN7.out.cell 5
        have n6 := HN7.out.cell 6
        have n7 := HN7.out.cell 7
        have n8 := HN7.out.cell 8
        simp at p0 n0 n1 n2 n3 n4 n5 n6 n7 n8
        have hH7 : (fun w' : World => w'.cell? ⟨p, 0, none⟩ = some (.slice Av ll cv) ∧ w'.cell? ⟨qn, 0, none⟩ = some (.int .i64 x) ∧ w'.cell? ⟨qn, 1, none⟩ = some (.string y) ∧ w'.cell? ⟨qn, 2, none⟩ = some (.int .i64 m) ∧ w'.cell? ⟨qn, 3, none⟩ = some (.slice none 0 0) ∧ w'.cell? ⟨qn, 4, none⟩ = some (.int .i64 ll) ∧ w'.cell? ⟨qn, 5, none⟩ = some (.int .i64 ll) ∧ w'.cell? ⟨qn, 6, none⟩ = some (.int .i64 x) ∧ w'.cell? ⟨qn, 7, none⟩ = some (.int .i64 0) ∧ w'.cell? ⟨qn, 8, none⟩ = some (.int .i64 0)) w7 := ⟨p0, n0, n1, n2, n3, n4, n5, n6, n7, n8⟩
        refine hK.out _ _ (fun _ => hH7) ?_
        clear hK K
        try simp only [Act.put, List.setIfInBounds_toArray, List.set_cons_zero, List.set_cons_succ, Nat.zero_add]
        refine wpAnyY_take0 (i := 8) (v := ?_) rfl (by kernel_rfl) (by kernel_rfl) (by kernel_rfl) (by kernel_rfl) (fun _ _ _ h => h) (Or.inl ⟨by rfl, ?_⟩) ?_
        rotate_left 1
        · (intro w' _; go_simp); try with_reducible rfl
        try simp only [Act.put, List.setIfInBounds_toArray, List.set_cons_zero, List.set_cons_succ, Nat.zero_add]
        refine wpAnyY_take (i := 9) (v := ?_) rfl (by kernel_rfl) (by kernel_rfl) (by kernel_rfl) (by kernel_rfl) (fun _ _ _ h => h) (Or.inl ⟨by rfl, ?_⟩) (by assumption) ?_
        rotate_left 1
        · (intro w' hSw; obtain ⟨s0, s1, s2, s3, s4, s5, s6, s7, s8, s9⟩ := hSw; go_simp); try with_reducible rfl
        try simp only [Act.put, List.setIfInBounds_toArray, List.set_cons_zero, List.set_cons_succ, Nat.zero_add]
        refine wpAnyY_one0 (i := 10) rfl (by kernel_rfl) (by kernel_rfl) (fun K hK => ?_)
        go_simp
        refine hK.out _ _ ?_
        clear hK K
        try simp only [Act.put, List.setIfInBounds_toArray, List.set_cons_zero, List.set_cons_succ, Nat.zero_add]
        refine wpAnyY_done (by kernel_rfl) ?_ _
        clear p0 p0f hH7 n0 n1 n2 n3 n4 n5 n6 n7 n8
        obtain ⟨w8, hw8⟩ : ∃ q, w7.setCell ⟨p, 0, none⟩ (.slice A7 (ll + 1) c7) = q := ⟨_, rfl⟩
        rw [hw8] at HM8
        try rw [hw8]
        clear hw8 HB7 HN7
        go_wp2_with fail
        go_roundg (n - (i + 1))
        case measure => omega
        case rel =>
          refine ⟨i + 1, .slice A7 (ll + 1) c7, l ++ [z], _, atL.set i ll, by go_num, rfl, by omega, HM8.out, ?_, by rw [List.length_set]; exact HAL.out, by have := HHL.out; (try simp only [List.length_append, List.length_cons, List.length_nil]); omega⟩
          rw [take_set_snoc (by rw [HAL.out]; exact hlt), HZ4.out]
          have := HL.out.app hlt2 (by rw [HX.out]; omega)
          rw [HLL.out] at this
          exact this
    · have hlt' : ¬ (i : Int) < n := by omega
      have hin2 : i = n := by omega
      have HLE : Hid (Lay1 ts l0 hm0 ts.length l hm atL) := Lib.hid (by have := HL.out; rw [List.take_of_length_le (by rw [HAL.out]; omega)] at this; rw [HN.out]; rw [hin2] at this; exact this)
      clear hM HL hin2
      have hqx := HM.out.box.cell 0
      have hqxl := HM.out.box.lt
      simp at hqx
      go_upto_region 16 with fail
      clear hqx hqxl
      go_loopg [106] n (fun g s106 wx => ∃ (j : Nat) (l2 : List PN), s106 = .int .i64 j ∧ g = n - j ∧ j ≤ n ∧ LayM w B p mb lv0 tv td w.heap.size (w.heap.size + 1) (.slice A n c) wx lv l2 hm atL ∧ Lay2 ts atL l j l2)
      case atStart => exact ⟨0, l, rfl, rfl, Nat.zero_le _, HM.out, Lay2.start⟩
      case round =>
        clear HM
        obtain ⟨j, l2, rfl, rfl, hj, hM, hB2⟩ := hrel
        have HM := Lib.hid hM; have HB2 := Lib.hid hB2
        have j0 : (0 : Int) ≤ j := by omega
        clear hB2
        by_cases hjl : j < n
        · have hjl' : (j : Int) < n := by omega
          have hjl2 : j < ts.length := by rw [HN.out]; exact hjl
          have hFK : Keep F w wr := Keep.kb hM.kb HFF.out
          obtain ⟨b, off, S, k, rfl, hbF, d0, d1, d2, hk1, hk2, hrow⟩ := nodes_at HR.out hjl2
          have d0 := (hFK ⟨b, off + j * 3, none⟩ hbF).trans d0
          have d1 := (hFK ⟨b, off + j * 3 + 1, none⟩ hbF).trans d1
          have d2 := (hFK ⟨b, off + j * 3 + 2, none⟩ hbF).trans d2
          have hNR := HIN.out.node _ (List.getElem_mem hjl2)
          obtain ⟨x, hx, hx0⟩ : ∃ x : Nat, ts[j].var = (x : Int) ∧ x ≤ 2147483647 := by
            rcases hNR with h1 | h1
            · exact ⟨ts[j].var.toNat, by have := h1.1; omega, by have := h1.2.1; omega⟩
            · exact ⟨0, h1.1, by omega⟩
          obtain ⟨y, hy⟩ : ∃ y, ts[j].name = y := ⟨_, rfl⟩
          obtain ⟨la, hla⟩ : ∃ m, ts[j].args = m := ⟨_, rfl⟩
          obtain ⟨hM256, hAR⟩ := HIN.out.args _ (List.getElem_mem hjl2)
          have HX := Lib.hid hx; have HLA := Lib.hid hla
          rw [hla] at hAR hrow hM256
          have HAR := Lib.hid hAR; have HROW := Lib.hid hrow
          rw [hx] at d0; rw [hy] at d1; rw [hla] at d2 hk1
          obtain ⟨m, hm_⟩ : ∃ m, la.length = m := ⟨_, rfl⟩
          have HMM := Lib.hid hm_
          rw [hm_] at d2 hk1 hM256
          unfold maxLen at hk2
          clear hrow hFK hM hNR hx hy hla hm_ hAR
          go_upto_region 18 with fail
          clear d0 d1 d2
          obtain ⟨qt, hqt⟩ : ∃ q, wr.heap.size = q := ⟨_, rfl⟩
          obtain ⟨u, hu⟩ : ∃ u : World, wr.alloc (.cells #[.int .i64 x, .string y, .slice S m k] 58) = u := ⟨_, rfl⟩
          have HMU : Hid (LayM w B p mb lv0 tv td w.heap.size (w.heap.size + 1) (.slice (some ⟨b, off, none⟩) n c) u lv l2 hm atL) := Lib.hid (by rw [← hu]; exact HM.out.alloc _)
          have HTU : Hid (Blk u qt 58 #[.int .i64 x, .string y, .slice S m k]) := Lib.hid (by rw [← hu]; exact Blk.new' hqt.symm)
          (try rw [hu])
          (try rw [hqt])
          clear hu hqt HM
          have t0 := HTU.out.cell 0; have t2 := HTU.out.cell 2
          simp at t0 t2
          by_cases hsk : 0 < x ∨ m = 0
          · have HSK : Hid (0 < ts[j].var ∨ (ts[j].var = 0 ∧ ts[j].args = [])) := Lib.hid (by
              rw [HX.out, HLA.out]
              rcases Nat.eq_zero_or_pos x with e | e
              · exact .inr ⟨by omega, List.eq_nil_of_length_eq_zero (by rw [HMM.out]; omega)⟩
              · exact .inl (by omega))
            by_cases hxp : 0 < x
            · have g1 : ((x : Int) == 0) = false := beq_eq_false_iff_ne.2 (by omega)
              clear hsk hxp
              go_wp2_with fail
              go_roundg (n - (j + 1))
              case measure => omega
              case rel => exact ⟨j + 1, l2, by go_num, rfl, by omega, HMU.out, HB2.out.skip HLE.out hjl2 HSK.out⟩
            · obtain rfl : x = 0 := by omega
              obtain rfl : m = 0 := by omega
              have g1 : (((0 : Nat) : Int) == 0) = true := rfl
              clear hsk hxp
              go_wp2_with fail
              go_roundg (n - (j + 1))
              case measure => omega
              case rel => exact ⟨j + 1, l2, by go_num, rfl, by omega, HMU.out, HB2.out.skip HLE.out hjl2 HSK.out⟩
          · obtain rfl : x = 0 := by omega
            have hmp : 0 < m := by omega
            have g1 : (((0 : Nat) : Int) == 0) = true := rfl
            have g2 : (0 : Int) < m := by omega
            have hmk2 : ∀ w0, (Instr.makeSlice 51 (.int .i64 m) (.int .i64 m)).run Tryd.prog w0 = .ok (.slice (some ⟨w0.heap.size, 0, none⟩) m m) (w0.alloc (.cells (madeCells #[.int .i64 0] m) 3)) := by
              intro w0
              obtain ⟨i, hi, hz, hsize, hby⟩ := info_parts int_info15
              have := run_make (P := Tryd.prog) w0 51 3 i (.int .i64 0) Tryd.underlying51 hi hz .i64 .i64 m m (by omega) (by omega) (by rw [hby]; omega) (by omega)
              rw [hsize] at this
              simpa [Value.cells] using this
            have hqtl := HTU.out.lt
            clear hsk
            go_upto_region 21 with fail
            clear hmk2 t0 t2 hqtl
            obtain ⟨gb, hgb⟩ : ∃ q, u.heap.size = q := ⟨_, rfl⟩
            obtain ⟨u1, hu1⟩ : ∃ q : World, u.alloc (.cells (madeCells #[.int .i64 0] m) 3) = q := ⟨_, rfl⟩
            have HM1 : Hid (LayM w B p mb lv0 tv td w.heap.size (w.heap.size + 1) (.slice (some ⟨b, off, none⟩) n c) u1 lv l2 hm atL) := Lib.hid (by rw [← hu1]; exact HMU.out.alloc _)
            have HG1 : Hid (Row1 u1 gb (List.replicate m 0)) := Lib.hid (by rw [← hu1, ← hgb]; exact Row1.made u m)
            have HGN : Hid (w.heap.size + 1 < gb ∧ (∀ x ∈ l2, x.av.ownBlock ≠ some gb)) := Lib.hid ⟨by have := Blk.lt HMU.out.row; omega, fun x hx e => by have := ((HMU.out.web.nodes.args x hx).lt _ e).2; omega⟩
            try rw [hu1]
            try rw [hgb]
            clear hu1 hgb HMU HTU
            go_loopg [127] m (fun g s127 wx => ∃ (q : Nat) (rl : List Nat), s127 = .int .i64 q ∧ g = m - q ∧ q ≤ m ∧ LayM w B p mb lv0 tv td w.heap.size (w.heap.size + 1) (.slice (some ⟨b, off, none⟩) n c) wx lv l2 hm atL ∧ Row1 wx gb rl ∧ rl.length = m ∧ rl.take q = (atArgs atL la).take q)
            case atStart => exact ⟨0, _, rfl, rfl, Nat.zero_le _, HM1.out, HG1.out, by simp, by simp⟩
            case round =>
              clear HM1 HG1
              obtain ⟨q, rl, rfl, rfl, hq, hM, hG, hrl, hrq⟩ := hrel
              have HM := Lib.hid hM; have HG := Lib.hid hG; have HRL := Lib.hid hrl; have HRQ := Lib.hid hrq
              have q0 : (0 : Int) ≤ q := by omega
              clear hG hrl hrq
              by_cases hqm : q < m
              · have hqm' : (q : Int) < m := by omega
                have hql : q < la.length := by rw [HMM.out]; exact hqm
                obtain ⟨b2, off2, e2, hbF2, e3⟩ := ints_at HROW.out hql
                have e3 := (Keep.kb hM.kb HFF.out ⟨b2, off2 + q, none⟩ hbF2).trans e3
                obtain ⟨ha0, ha1⟩ := HAR.out _ (List.getElem_mem hql)
                obtain ⟨a, ha⟩ : ∃ a : Nat, la[q] = (a : Int) := ⟨la[q].toNat, by omega⟩
                have HA := Lib.hid ha
                rw [ha] at e3 ha0 ha1
                have hal : a < atL.length := by rw [HAL.out, ← HN.out]; omega
                have ha1' : (a : Int) < n := by rw [← HN.out]; exact ha1
                obtain ⟨v, hv⟩ : ∃ v, atL[a] = v := ⟨_, rfl⟩
                have r0 : wr.cell? ⟨w.heap.size + 1, a, none⟩ = some (.int .i64 v) := by rw [← hv]; exact HM.out.row.cell hal
                have HV : Hid (atL.getD a 0 = v) := Lib.hid (by rw [← hv]; simp [List.getD_eq_getElem?_getD, List.getElem?_eq_getElem hal])
                obtain ⟨z, s0⟩ : ∃ z : Nat, wr.cell? ⟨gb, q, none⟩ = some (.int .i64 z) := ⟨_, HG.out.cell (by rw [HRL.out]; exact hqm)⟩
                have sf := Blk.frozen HG.out q
                subst e2
                clear hM hv ha hal ha1
                go_wp2_with fail
                clear e3 r0 s0 sf
                go_roundg (m - (q + 1))
                case measure => omega
                case rel =>
                  refine ⟨q + 1, rl.set q v, by go_num, rfl, by omega, HM.out.other HG.out (by have := HGN.out.1; omega) (by have := HGN.out.1; omega) HGN.out.2 _, HG.out.set_ q v, by rw [List.length_set]; exact HRL.out, ?_⟩
                  rw [take_set_snoc (by rw [HRL.out]; exact hqm), HRQ.out, List.take_succ_eq_append_getElem (by unfold atArgs; rw [List.length_map]; exact hql)]
                  congr 1
                  unfold atArgs
                  rw [List.getElem_map, HA.out, Int.toNat_natCast, HV.out]
              · have hqm' : ¬ (q : Int) < m := by omega
                have HRE : Hid (rl = atArgs atL la) := Lib.hid (by
                  have h1 := HRQ.out
                  rw [List.take_of_length_le (by rw [HRL.out]; omega), List.take_of_length_le (by unfold atArgs; rw [List.length_map, HMM.out]; omega)] at h1
                  exact h1)
                clear hM
                have hjat : j < atL.length := by rw [HAL.out]; exact hjl
                obtain ⟨-, hkl, -⟩ := HLE.out.aat j hjat hjl2 HX.out
                have hkl2 : atL[j] < l2.length := by rw [HB2.out.len]; exact hkl
                obtain ⟨at0, hat0⟩ : ∃ v, atL[j] = v := ⟨_, rfl⟩
                rw [hat0] at hkl hkl2
                have a0 : wr.cell? ⟨w.heap.size + 1, j, none⟩ = some (.int .i64 at0) := by rw [← hat0]; exact HM.out.row.cell hjat
                obtain ⟨g, cv, rfl, -, -, -, -, hat⟩ := HM.out.web.nodes.at_ hkl2
                have z3f := (hat 3 (by omega)).2
                obtain ⟨zz, z3⟩ : ∃ z, wr.cell? ⟨g, at0 * 9 + 3, none⟩ = some z := ⟨_, (hat 3 (by omega)).1⟩
                obtain ⟨ll, hll⟩ : ∃ ll, l2.length = ll := ⟨_, rfl⟩
                have HLL := Lib.hid hll
                have p0 := HM.out.web.blk.cell 0
                simp only [List.getElem?_toArray, List.getElem?_cons_zero] at p0
                rw [hll] at HM p0 hkl2
                have HRL2 : Hid (rl.length = m) := HRL
                obtain ⟨l9, hM9, hB9⟩ : ∃ l9 : List PN, LayM w B p mb lv0 tv td w.heap.size (w.heap.size + 1) (.slice (some ⟨b, off, none⟩) n c) (wr.setCell ⟨g, at0 * 9 + 3, none⟩ (.slice (some ⟨gb, 0, none⟩) m m)) (.slice (some ⟨g, 0, none⟩) ll cv) l9 hm atL ∧ Lay2 ts atL l (j + 1) l9 := by
                  refine ⟨l2.set at0 { l2[at0]'(by rw [hll]; exact hkl2) with av := .slice (some ⟨gb, 0, none⟩) m m, args := rl }, ?_, ?_⟩
                  · have := HM.out.args (k := at0) (by rw [hll]; exact hkl2) HG.out (by rw [HRL.out]; unfold maxLen; omega) (by have := HGN.out.1; omega) (by have := HGN.out.1; omega)
                    rw [HRL.out] at this
                    exact this
                  · have h1 := HB2.out.put (l0 := l0) (hm0 := hm0) (hm := hm) HLE.out hjl2 HX.out hjat (by rw [hat0, hll]; exact hkl2) (x := { l2[at0]'(by rw [hll]; exact hkl2) with av := .slice (some ⟨gb, 0, none⟩) m m, args := rl }) ⟨.slice (some ⟨gb, 0, none⟩) m m, by rw [HLA.out, ← HRE.out]; simp only [hat0]⟩
                    rw [hat0] at h1
                    exact h1
                have HM9 := Lib.hid hM9; have HB9 := Lib.hid hB9
                clear hM9 hB9
                clear hat hll hat0 hkl hjat
                have at00 : (0 : Int) ≤ at0 := by omega
                have at01 : (at0 : Int) < ll := by omega
                go_upto_region 25 with fail
                refine wp_region_Y (S := (fun w' : World => w'.cell? ⟨p, 0, none⟩ = some (.slice (some ⟨g, 0, none⟩) ll cv) ∧ w'.cell? ⟨w.heap.size + 1, j, none⟩ = some (.int .i64 at0))) 11 (by kernel_rfl) (⟨p0, a0⟩) (fun hHeld => ?_)
                refine wpAnyY_take (i := 0) (v := ?_) rfl (by kernel_rfl) (by kernel_rfl) (by kernel_rfl) (by kernel_rfl) (fun _ _ _ h => h) (Or.inl ⟨by rfl, ?_⟩) (by assumption) ?_
                rotate_left 1
                · (intro w' hSw; obtain ⟨s0, s1⟩ := hSw; go_simp); try with_reducible rfl
                try simp only [Act.put, List.setIfInBounds_toArray, List.set_cons_zero, List.set_cons_succ, Nat.zero_add]
                refine wpAnyY_take (i := 1) (v := ?_) rfl (by kernel_rfl) (by kernel_rfl) (by kernel_rfl) (by kernel_rfl) (fun _ _ _ h => h) (Or.inl ⟨by rfl, ?_⟩) (by assumption) ?_
                rotate_left 1
                · (intro w' hSw; obtain ⟨s0, s1⟩ := hSw; go_simp); try with_reducible rfl
                try simp only [Act.put, List.setIfInBounds_toArray, List.set_cons_zero, List.set_cons_succ, Nat.zero_add]
                refine wpAnyY_take (i := 2) (v := ?_) rfl (by kernel_rfl) (by kernel_rfl) (by kernel_rfl) (by kernel_rfl) (fun _ _ _ h => h) (Or.inl ⟨by rfl, ?_⟩) (by assumption) ?_
                rotate_left 1
                · (intro w' hSw; obtain ⟨s0, s1⟩ := hSw; go_simp); try with_reducible rfl
                try simp only [Act.put, List.setIfInBounds_toArray, List.set_cons_zero, List.set_cons_succ, Nat.zero_add]
                refine wpAnyY_take (i := 3) (v := ?_) rfl (by kernel_rfl) (by kernel_rfl) (by kernel_rfl) (by kernel_rfl) (fun _ _ _ h => h) (Or.inl ⟨by rfl, ?_⟩) (by assumption) ?_
                rotate_left 1
                · (intro w' hSw; obtain ⟨s0, s1⟩ := hSw; go_simp); try with_reducible rfl
                try simp only [Act.put, List.setIfInBounds_toArray, List.set_cons_zero, List.set_cons_succ, Nat.zero_add]
                refine wpAnyY_take (i := 4) (v := ?_) rfl (by kernel_rfl) (by kernel_rfl) (by kernel_rfl) (by kernel_rfl) (fun _ _ _ h => h) (Or.inl ⟨by rfl, ?_⟩) (by assumption) ?_
                rotate_left 1
                · (intro w' hSw; obtain ⟨s0, s1⟩ := hSw; go_simp); try with_reducible rfl
                try simp only [Act.put, List.setIfInBounds_toArray, List.set_cons_zero, List.set_cons_succ, Nat.zero_add]
                refine wpAnyY_take (i := 5) (v := ?_) rfl (by kernel_rfl) (by kernel_rfl) (by kernel_rfl) (by kernel_rfl) (fun _ _ _ h => h) (Or.inl ⟨by rfl, ?_⟩) (by assumption) ?_
                rotate_left 1
                · (intro w' hSw; obtain ⟨s0, s1⟩ := hSw; go_simp); try with_reducible rfl
                try simp only [Act.put, List.setIfInBounds_toArray, List.set_cons_zero, List.set_cons_succ, Nat.zero_add]
                refine wpAnyY_take (i := 6) (v := ?_) rfl (by kernel_rfl) (by kernel_rfl) (by kernel_rfl) (by kernel_rfl) (fun _ _ _ h => h) (Or.inl ⟨by rfl, ?_⟩) (by assumption) ?_
                rotate_left 1
                · (intro w' hSw; obtain ⟨s0, s1⟩ := hSw; go_simp); try with_reducible rfl
                try simp only [Act.put, List.setIfInBounds_toArray, List.set_cons_zero, List.set_cons_succ, Nat.zero_add]
                refine wpAnyY_take (i := 7) (v := ?_) rfl (by kernel_rfl) (by kernel_rfl) (by kernel_rfl) (by kernel_rfl) (fun _ _ _ h => h) (Or.inl ⟨by rfl, ?_⟩) (by assumption) ?_
                rotate_left 1
                · (intro w' hSw; obtain ⟨s0, s1⟩ := hSw; go_simp); try with_reducible rfl
                try simp only [Act.put, List.setIfInBounds_toArray, List.set_cons_zero, List.set_cons_succ, Nat.zero_add]
                refine wpAnyY_take (i := 8) (v := ?_) rfl (by kernel_rfl) (by kernel_rfl) (by kernel_rfl) (by kernel_rfl) (fun _ _ _ h => h) (Or.inl ⟨by rfl, ?_⟩) (by assumption) ?_
                rotate_left 1
                · (intro w' hSw; obtain ⟨s0, s1⟩ := hSw; go_simp); try with_reducible rfl
                try simp only [Act.put, List.setIfInBounds_toArray, List.set_cons_zero, List.set_cons_succ, Nat.zero_add]
                refine wpAnyY_take0 (i := 9) (v := ?_) rfl (by kernel_rfl) (by kernel_rfl) (by kernel_rfl) (by kernel_rfl) (fun _ _ _ h => h) (Or.inl ⟨by rfl, ?_⟩) ?_
                rotate_left 1
                · (intro w' _; go_simp); try with_reducible rfl
                try simp only [Act.put, List.setIfInBounds_toArray, List.set_cons_zero, List.set_cons_succ, Nat.zero_add]
                refine wpAnyY_take (i := 10) (v := ?_) rfl (by kernel_rfl) (by kernel_rfl) (by kernel_rfl) (by kernel_rfl) (fun _ _ _ h => h) (Or.inl ⟨by rfl, ?_⟩) (by assumption) ?_
                rotate_left 1
                · (intro w' hSw; obtain ⟨s0, s1⟩ := hSw; go_simp); try with_reducible rfl
                try simp only [Act.put, List.setIfInBounds_toArray, List.set_cons_zero, List.set_cons_succ, Nat.zero_add]
                refine wpAnyY_one0 (i := 11) rfl (by kernel_rfl) (by kernel_rfl) (fun K hK => ?_)
                go_simp
                refine hK.out _ _ ?_
                clear hK K
                try simp only [Act.put, List.setIfInBounds_toArray, List.set_cons_zero, List.set_cons_succ, Nat.zero_add]
                refine wpAnyY_done (by kernel_rfl) ?_ _
                clear p0 a0 z3 z3f
                go_wp2_with fail
                go_roundg (n - (j + 1))
                case measure => omega
                case rel =>
                  exact ⟨j + 1, l9, by go_num, rfl, by omega, by rw [HLL.out]; exact HM9.out.drew, HB9.out⟩
        · have hjl' : ¬ (j : Int) < n := by omega
          have hat0 : 0 < atL.length := by rw [HAL.out]; omega
          obtain ⟨v, hv⟩ : ∃ v, atL[0] = v := ⟨_, rfl⟩
          have a0 : wr.cell? ⟨w.heap.size + 1, 0, none⟩ = some (.int .i64 v) := by rw [← hv]; exact HM.out.row.cell hat0
          have HV : Hid (atL[0]? = some v) := Lib.hid (by rw [List.getElem?_eq_getElem hat0, hv])
          have HBE : Hid (Lay2 ts atL l ts.length l2) := Lib.hid (by have := HB2.out; rw [HN.out, ← show j = n by omega]; exact this)
          clear hM hv hat0
          go_wp2_with fail
          go_ret
          exact ⟨lv, l, l2, hm, atL, ⟨v, rfl, HV.out⟩, HM.out.kb, HM.out.web, HM.out.lvb, HLE.out, HBE.out⟩
end Go.Proofs.YtgcbnndbeoekgaaDoor
