import Derived.Test.YtmafhaadcjgcbaaBackW
import Derived.Test.YtmafhaadcjgcbaaBuiltA
import Derived.Test.YtmafhaadcjgcbaaATellsA
import Derived.Test.YtmafhaadcjgcbaaASameRef
import Derived.Test.YtmafhaadcjgcbaaRegZ
import Derived.Lib.QuietBelow
import Derived.Test.YtmafhaadcjgcbaaRows
import Derived.HandedShaped
import Derived.ChangeMaps5
set_option linter.unusedSimpArgs false
set_option linter.unusedVariables false
section
/- the law: what is moved and moved back stands as it stood -/
namespace Go.Proofs.Ytmafhaadcjgcbaa
open Go Go.RowKit

/-- a node as Find answers it -/
theorem found_there {w : World} {F : Nat → Prop} {m : AModel} {z : ANode} (hc : CheckM m) (hz : z ∈ m.nodes) {v : Value} (h : FoundAs w F m z.id v) :
    ∃ P np cp K nk ck R nr cr, v = .tuple #[.agg #[.int .i64 z.id, .string z.concept, .int .i64 z.parent, .string z.role, .slice P np cp, .slice K nk ck, .slice R nr cr], .bool true] := by
  rcases h with ⟨y, hy, _, hi, vp, vk, vr, rfl, ⟨P, cp, rfl, _⟩, ⟨K, ck, rfl, _⟩, ⟨R, cr, rfl, _⟩, _⟩ | ⟨hn, _⟩
  · have e : y = z := node_inj hc.1.2 hy hz hi
    subst e
    exact ⟨_, _, _, _, _, _, _, _, _, rfl⟩
  · exact absurd ⟨hc, z, hz, rfl⟩ hn
theorem found_zero {w : World} {F : Nat → Prop} {m : AModel} (hc : CheckM m) {v : Value} (h : FoundAs w F m 0 v) :
    v = .tuple #[.agg #[.int .i64 0, .string ⟨#[]⟩, .int .i64 0, .string ⟨#[]⟩, .slice none 0 0, .slice none 0 0, .slice none 0 0], .bool false] := by
  rcases h with ⟨y, hy, _, hi, _⟩ | ⟨_, e⟩
  · obtain ⟨j, hj, rfl⟩ := List.getElem_of_mem hy
    have h3 := hc.1.2 j hj
    omega
  · exact e
/-- a model with a node more as it is answered -/
theorem added_as {w w' : World} {m : AModel} (hc : CheckM m) {p a : Int} {role con : ByteArray} {v : Value} (h : AddAs w' w.heap.size m p role a con v) :
    ∃ nx A' n' c' iv, v = .tuple #[.agg #[.int .i64 nx, .slice A' n' c'], .int .i64 iv, .int .i64 (addE m p role a con)] ∧
      (addE m p role a con = 0 → nx = m.next + 1 ∧ iv = m.next ∧ n' = (addM m p role a con).nodes.length ∧ (addM m p role a con).next = m.next + 1 ∧ RowOf 7 ENode w' (fun b => b < w'.heap.size) A' (addM m p role a con).nodes) := by
  by_cases hE : addE m p role a con = 0
  · obtain ⟨A1, c1, rfl, h3⟩ := add_done hc hE h
    rw [hE]
    exact ⟨_, _, _, _, _, rfl, fun _ => ⟨rfl, rfl, rfl, by unfold addM; split <;> rfl, h3.keep ENode.stays (fun _ _ => rfl) (fun _ h => h.2)⟩⟩
  · rcases h with ⟨E, h0, e1, rfl⟩ | ⟨e1, _⟩
    · rw [e1]; exact ⟨_, _, _, _, _, rfl, fun e => absurd e h0⟩
    · exact absurd e1 hE

/-- a model moved as it is answered -/
theorem moved_as {w' : World} {base : Nat} {next E : Int} {ns : List ANode} {v : Value} (h : ResOwn w' base next E ns v) :
    ∃ nx A' n' c', v = .tuple #[.agg #[.int .i64 nx, .slice A' n' c'], .int .i64 E] ∧ (E = 0 → nx = next ∧ n' = ns.length ∧ RowOf 7 ENode w' (fun b => b < w'.heap.size) A' ns) := by
  rcases h with ⟨e, rfl⟩ | ⟨rfl, vl, l, rfl, ho, hl⟩
  · exact ⟨_, _, _, _, rfl, fun e2 => absurd e2 e⟩
  · obtain ⟨A', c', e1, _, _, h3⟩ := ho.isRow (F := fun b => b < w'.heap.size) (fun b _ h => h)
    rw [hl] at h3 e1
    subst e1
    exact ⟨_, _, _, _, rfl, fun _ => ⟨rfl, rfl, h3⟩⟩
theorem ints_both (A A' : Option Addr) (c c' : Nat) (l : List Int) (w : World) (F F' : Nat → Prop) (h : RowOf 1 EInt w F A l) (h' : RowOf 1 EInt w F' A' l) (hl : l.length ≤ 9223372036854775807) :
    Calls Try.prog 31 #[.slice A l.length c, .slice A' l.length c'] w fun e w' => e = .returned (.bool true) ∧ Below w.heap.size w w' :=
  (res_is (eqB_yes (rfl : l = l)) (ints_any A A' c c' l l w F F' h h' hl)).mono fun _ _ ⟨he, n, hn⟩ => ⟨he, by subst hn; exact ⟨rfl, rfl, rfl, Nat.le_refl _, fun _ _ => rfl⟩⟩
theorem moved_as2 {w' : World} {base : Nat} {next E : Int} {ns : List ANode} {v : Value} (h : ResOwn w' base next E ns v) :
    ∃ nx A' n' c', v = .tuple #[.agg #[.int .i64 nx, .slice A' n' c'], .int .i64 E] ∧ (E = 0 → nx = next ∧ n' = ns.length ∧ RowOf 7 ENode w' (fun b => base ≤ b ∧ b < w'.heap.size) A' ns) := by
  rcases h with ⟨e, rfl⟩ | ⟨rfl, vl, l, rfl, ho, hl⟩
  · exact ⟨_, _, _, _, rfl, fun e2 => absurd e2 e⟩
  · obtain ⟨A', c', e1, _, _, h3⟩ := ho.isRow (F := fun b => base ≤ b ∧ b < w'.heap.size) (fun b h1 h2 => ⟨h1, h2⟩)
    rw [hl] at h3 e1
    subst e1
    exact ⟨_, _, _, _, rfl, fun _ => ⟨rfl, rfl, h3⟩⟩

set_option maxRecDepth 100000 in
set_option maxHeartbeats 16000000 in
theorem back_law (va : Value) (acts : List QAct) (a : QAct) (w : World) (h : IsRow 6 EQAct w (fun b => b < w.heap.size) va acts) (hz : ∀ a ∈ acts, ActOK a) (ha : ActOK a) :
    Calls Try.prog 9 #[va, .agg (qactCells a).toArray] w fun e w' => e = .returned (.bool true) ∧ Below w.heap.size w w' := by
  obtain ⟨Sa, ca, rfl, hc1, hc2, hr⟩ := h
  have HRA := Lib.hid (fun (w' : World) (hb : Below w.heap.size w w') => (⟨Sa, ca, rfl, hc1, hc2, RowOf.keep EQAct.stays (Keep.below hb fun _ h => h) (F' := fun b => b < w'.heap.size) (fun b h => Nat.lt_of_lt_of_le h hb.size) hr⟩ : IsRow 6 EQAct w' (fun b => b < w'.heap.size) (.slice Sa acts.length ca) acts))
  have HZ := Lib.hid hz; have HAO := Lib.hid ha
  clear hr hz ha hc1 hc2
  show Calls Try.prog _ #[_, .agg #[.int .i64 a.kind, .int .i64 a.a, .int .i64 a.b, .int .i64 a.at', .string a.word, .string a.text]] w _
  obtain ⟨ak, hak⟩ : ∃ z, a.kind = z := ⟨_, rfl⟩
  obtain ⟨aa, haa⟩ : ∃ z, a.a = z := ⟨_, rfl⟩
  obtain ⟨ab, hab⟩ : ∃ z, a.b = z := ⟨_, rfl⟩
  obtain ⟨at2, hat2⟩ : ∃ z, a.at' = z := ⟨_, rfl⟩
  obtain ⟨wd, hwd⟩ : ∃ z, a.word = z := ⟨_, rfl⟩
  obtain ⟨tx, htx⟩ : ∃ z, a.text = z := ⟨_, rfl⟩
  have HAA := Lib.hid haa; have HAB := Lib.hid hab; have HAT := Lib.hid hat2; have HWD := Lib.hid hwd
  rw [hak, haa, hab, hat2, hwd, htx]
  clear hak haa hab hat2 hwd htx
  obtain ⟨u0, hu0⟩ : ∃ u : World, w.alloc (.cells #[.int .i64 ak, .int .i64 aa, .int .i64 ab, .int .i64 at2, .string wd, .string tx] 74) = u := ⟨_, rfl⟩
  have MM : Hid (Mem w u0 ([.blk w.heap.size 74 #[.int .i64 ak, .int .i64 aa, .int .i64 ab, .int .i64 at2, .string wd, .string tx]])) := Lib.hid (by rw [← hu0]; exact (Mem.start w).allocG rfl #[.int .i64 ak, .int .i64 aa, .int .i64 ab, .int .i64 at2, .string wd, .string tx] 74)
  have HU0 := Lib.hid hu0
  clear hu0
  go_enter Try.func9, Try.ntmps9
  go_wp2_with fail
  (try rw [HU0.out])
  clear HU0
  refine (wake_any u0).mono ?_
  rintro _ w1 ⟨rfl, hb⟩
  have MM2 : Hid (Mem w w1 ([.blk w.heap.size 74 #[.int .i64 ak, .int .i64 aa, .int .i64 ab, .int .i64 at2, .string wd, .string tx]])) := Lib.hid (MM.out.call hb)
  clear MM
  have MM := MM2
  clear MM2
  clear hb
  go_wp2_with fail
  refine (built_any _ acts w1 (HRA.out _ MM.out.below) HZ.out).mono ?_
  rintro _ w2 ⟨⟨v, rfl, hbu⟩, hb⟩
  obtain ⟨m, A, c, rfl, hr, hcm, hfw⟩ := hbu
  have HCM := Lib.hid hcm; have HFW := Lib.hid hfw
  have hl4 : m.nodes.length ≤ 4096 := hcm.1.1.2.2
  obtain ⟨B1, hB1⟩ : ∃ z, w2.heap.size = z := ⟨_, rfl⟩
  have HRM : Hid (RowOf 7 ENode w2 (fun b => b < B1) A m.nodes) := Lib.hid (by rw [← hB1]; exact hr)
  have HLRM : Hid (B1 ≤ w2.heap.size) := Lib.hid (Nat.le_of_eq hB1.symm)
  obtain ⟨n, hn⟩ : ∃ n, m.nodes.length = n := ⟨_, rfl⟩
  rw [hn] at hl4
  have HN := Lib.hid hn
  rw [hn]
  clear hr hcm hfw hB1 hn HRA HZ
  have MM2 : Hid (Mem w w2 ([.blk w.heap.size 74 #[.int .i64 ak, .int .i64 aa, .int .i64 ab, .int .i64 at2, .string wd, .string tx]])) := Lib.hid (MM.out.call hb)
  clear MM
  have MM := MM2
  clear MM2
  clear hb
  have HF1 : Hid (∀ w' : World, B1 ≤ w'.heap.size → ∀ b, b < B1 → b < w'.heap.size) := Lib.hid (fun w' h b hb => Nat.lt_of_lt_of_le hb h)
  have HLN := Lib.hid (lens_few HCM.out HFW.out (by omega : (150 : Nat) ≤ 100000))
  have HNO := Lib.hid (node_ok HCM.out)
  obtain ⟨x, hx⟩ : ∃ x, pickI m a.a = x := ⟨_, rfl⟩
  obtain ⟨y, hy⟩ : ∃ y, pickI m a.b = y := ⟨_, rfl⟩
  have hxr : InR x := by rw [← hx]; exact pick_inR HCM.out _
  have hyr : InR y := by rw [← hy]; exact pick_inR HCM.out _
  have HXP : Hid (x = 0 ∨ ∃ z ∈ m.nodes, z.id = x) := Lib.hid (by rw [← hx]; exact pick_in HCM.out _)
  have HYP : Hid (y = 0 ∨ ∃ z ∈ m.nodes, z.id = y) := Lib.hid (by rw [← hy]; exact pick_in HCM.out _)
  have HPA := Lib.hid (fun (w' : World) (h : RowOf 7 ENode w' (fun b => b < B1) A m.nodes) (hB : B1 ≤ w'.heap.size) => pick_any A c m w' (fun b => b < B1) (HF1.out _ hB) h HCM.out a.a HAO.out.ha)
  have HPB := Lib.hid (fun (w' : World) (h : RowOf 7 ENode w' (fun b => b < B1) A m.nodes) (hB : B1 ≤ w'.heap.size) => pick_any A c m w' (fun b => b < B1) (HF1.out _ hB) h HCM.out a.b HAO.out.hb)
  rw [hx, HAA.out, HN.out] at HPA
  rw [hy, HAB.out, HN.out] at HPB
  have HKD := Lib.hid (fun (w' : World) (h : RowOf 7 ENode w' (fun b => b < B1) A m.nodes) (hB : B1 ≤ w'.heap.size) => kidsA_any A c m w' (fun b => b < B1) (HF1.out _ hB) h HNO.out (by rw [HN.out]; omega) y hyr wd)
  obtain ⟨KL, hKL⟩ : ∃ L, kidR m wd y = L := ⟨_, rfl⟩
  have hkl : KL.length ≤ 4096 := by rw [← hKL]; exact kidR_len HCM.out _ _
  rw [hKL, HN.out] at HKD
  obtain ⟨q, hq⟩ : ∃ q, restN at2 (KL.length + 1) = q := ⟨_, rfl⟩
  have hql : q < KL.length + 1 := by rw [← hq]; exact restN_lt _ (by omega)
  have HRQ : Hid (∀ w', Calls Try.prog 58 #[.int .i64 at2, .int .i64 (IntKind.i64.wrap ((KL.length : Int) + 1))] w' fun e w2 => e = .returned (.int .i64 q) ∧ Below w'.heap.size w' w2) := Lib.hid (fun w' => by
    rw [IntWalk.i64_in ((KL.length : Int) + 1) ⟨by omega, by omega⟩]
    have := rest_any at2 (KL.length + 1) (by rw [← HAT.out]; exact HAO.out.hat) (by omega) (by omega) w'
    rw [hq] at this
    exact this)
  obtain ⟨ro, hro⟩ : ∃ r, (if y = 0 then (⟨#[]⟩ : ByteArray) else wd) = r := ⟨_, rfl⟩
  obtain ⟨pl, hpl⟩ : ∃ p, (if y = 0 then (0 : Int) else q) = p := ⟨_, rfl⟩
  have HR0 : Hid (y = 0 → ro = ⟨#[]⟩ ∧ pl = 0) := Lib.hid (fun h0 => by rw [← hro, ← hpl]; exact ⟨if_pos h0, if_pos h0⟩)
  have HR1 : Hid (y ≠ 0 → ro = wd ∧ pl = q) := Lib.hid (fun h0 => by rw [← hro, ← hpl]; exact ⟨if_neg h0, if_neg h0⟩)
  have hwds : wd.size ≤ 9223372036854775807 := by rw [← HWD.out]; exact HAO.out.hword
  have hros : ro.size ≤ 9223372036854775807 := by
    by_cases h0 : y = 0
    · rw [(HR0.out h0).1]; decide
    · rw [(HR1.out h0).1]; exact hwds
  have hplr : InR pl := by
    by_cases h0 : y = 0
    · rw [(HR0.out h0).2]; unfold InR; omega
    · rw [(HR1.out h0).2]; unfold InR; omega
  clear hx hy hKL hq hro hpl HAA HAB HAT HWD HAO
  obtain ⟨p5, hg⟩ : ∃ x, w2.heap.size = x := ⟨_, rfl⟩
  obtain ⟨w3, hu⟩ : ∃ z9 : World, w2.alloc (.cells #[.int .i64 m.next, .slice A n c] 24) = z9 := ⟨_, rfl⟩
  have hb : Below w2.heap.size w2 w3 := by rw [← hu]; exact (Below.refl _ _).alloc (Nat.le_refl _) _
  have MM2 : Hid (Mem w w3 ([.blk p5 24 #[.int .i64 m.next, .slice A n c], .blk w.heap.size 74 #[.int .i64 ak, .int .i64 aa, .int .i64 ab, .int .i64 at2, .string wd, .string tx]])) := Lib.hid (by rw [← hu]; exact MM.out.allocG hg #[.int .i64 m.next, .slice A n c] 24)
  clear MM
  have MM := MM2
  clear MM2
  have HRM2 : Hid (RowOf 7 ENode w3 (fun b => b < B1) A m.nodes) := Lib.hid (HRM.out.keep ENode.stays (Keep.below hb (fun b h => Nat.lt_of_lt_of_le (h) HLRM.out)) (fun _ h => h))
  have HLRM2 : Hid (B1 ≤ w3.heap.size) := Lib.hid (Nat.le_trans HLRM.out hb.size)
  clear HRM HLRM
  have HRM := HRM2; have HLRM := HLRM2
  clear HRM2 HLRM2
  have HU9 := Lib.hid hu; have HHp5 : Hid (w2.heap.size = p5) := Lib.hid hg
  clear hb hu hg
  go_upto_region 4 with fail
  (try rw [HU9.out])
  (try rw [HHp5.out])
  (try rw [HU9.out])
  clear HU9
  have mc0 := (MM.out.blk 0 rfl).cell 0
  have mc1 := (MM.out.blk 0 rfl).cell 1
  have mlt := (MM.out.blk 0 rfl).lt
  simp at mc0 mc1
  have cc1 := (MM.out.blk 1 rfl).cell 1
  have cc2 := (MM.out.blk 1 rfl).cell 2
  have clt := (MM.out.blk 1 rfl).lt
  simp at cc1 cc2
  have k0 := cell_regrown (mc0)
  have k1 := cell_regrown (mc1)
  have k2 := cell_regrown (cc1)
  have k3 := cell_regrown (cc2)
  have CHA := Lib.hid (fun (d : Nat) (os : Array Obj) => Calls.regrown_of (w := w3) (d := d) (os := os) (HPA.out _ (HRM.out.keep ENode.stays (Keep.below (below_regrown w3 d os) (fun b h => Nat.lt_of_lt_of_le h HLRM.out)) (fun _ h => h)) (Nat.le_trans HLRM.out (below_regrown w3 d os).size)))
  have CHB := Lib.hid (fun (d : Nat) (os : Array Obj) => Calls.regrown_of (w := w3) (d := d) (os := os) (HPB.out _ (HRM.out.keep ENode.stays (Keep.below (below_regrown w3 d os) (fun b h => Nat.lt_of_lt_of_le h HLRM.out)) (fun _ h => h)) (Nat.le_trans HLRM.out (below_regrown w3 d os).size)))
  clear HPA HPB mc0 mc1 mlt cc1 cc2 clt
  refine wp_region_quiet_below (by kernel_rfl) (by kernel_rfl) ?_
  iterate 7 (first | go_big_quiet_step (exact CHA.out _ _) | quiet_step (exact CHA.out _ _))
  repeat (first | go_big_quiet_step (exact CHB.out _ _) | quiet_step (exact CHB.out _ _))
  refine wpQuiet_nil ?_
  intro _ hw'
  obtain ⟨⟨dq, osq⟩, hw''⟩ := hw'
  subst hw''
  have hb := below_regrown w3 dq osq
  obtain ⟨w4, hwi⟩ : ∃ u : World, Sort.grow (redrawn w3 dq) osq = u := ⟨_, rfl⟩
  rw [hwi] at hb ⊢
  clear hwi k0 k1 k2 k3 CHA CHB
  have MM2 : Hid (Mem w w4 ([.blk p5 24 #[.int .i64 m.next, .slice A n c], .blk w.heap.size 74 #[.int .i64 ak, .int .i64 aa, .int .i64 ab, .int .i64 at2, .string wd, .string tx]])) := Lib.hid (MM.out.call hb)
  clear MM
  have MM := MM2
  clear MM2
  have HRM2 : Hid (RowOf 7 ENode w4 (fun b => b < B1) A m.nodes) := Lib.hid (HRM.out.keep ENode.stays (Keep.below hb (fun b h => Nat.lt_of_lt_of_le (h) HLRM.out)) (fun _ h => h))
  have HLRM2 : Hid (B1 ≤ w4.heap.size) := Lib.hid (Nat.le_trans HLRM.out hb.size)
  clear HRM HLRM
  have HRM := HRM2; have HLRM := HLRM2
  clear HRM2 HLRM2
  clear hb
  have cc4 := (MM.out.blk 1 rfl).cell 4
  have clt := (MM.out.blk 1 rfl).lt
  simp at cc4
  go_upto_region 6 with fail
  clear cc4 clt
  have HSM : Hid (∀ w', Blk w' p5 24 #[.int .i64 m.next, .slice A n c] → Blk w' w.heap.size 74 #[.int .i64 ak, .int .i64 aa, .int .i64 ab, .int .i64 at2, .string wd, .string tx] → w'.cell? ⟨p5, 0, none⟩ = some (.int .i64 m.next) ∧ w'.cell? ⟨p5, 1, none⟩ = some (.slice A n c) ∧ w'.cell? ⟨w.heap.size, 3, none⟩ = some (.int .i64 at2)) := Lib.hid (fun w' h h2 => by
    have a := h.cell 0; have b := h.cell 1; have d := h2.cell 3
    simp at a b d
    exact ⟨a, b, d⟩)
  obtain ⟨u, hu⟩ : ∃ z9 : World, w4.drew = z9 := ⟨_, rfl⟩
  have hb : Below w4.heap.size w4 u := by rw [← hu]; exact (Below.refl _ _).drew
  have MM2 : Hid (Mem w u ([.blk p5 24 #[.int .i64 m.next, .slice A n c], .blk w.heap.size 74 #[.int .i64 ak, .int .i64 aa, .int .i64 ab, .int .i64 at2, .string wd, .string tx]])) := Lib.hid (by rw [← hu]; exact MM.out.drew)
  clear MM
  have MM := MM2
  clear MM2
  have HRM2 : Hid (RowOf 7 ENode u (fun b => b < B1) A m.nodes) := Lib.hid (HRM.out.keep ENode.stays (Keep.below hb (fun b h => Nat.lt_of_lt_of_le (h) HLRM.out)) (fun _ h => h))
  have HLRM2 : Hid (B1 ≤ u.heap.size) := Lib.hid (Nat.le_trans HLRM.out hb.size)
  clear HRM HLRM
  have HRM := HRM2; have HLRM := HLRM2
  clear HRM2 HLRM2
  clear hb
  refine wp_region_Y (S := (fun w' : World => w'.cell? ⟨p5, 0, none⟩ = some (.int .i64 m.next) ∧ w'.cell? ⟨p5, 1, none⟩ = some (.slice A n c) ∧ w'.cell? ⟨w.heap.size, 3, none⟩ = some (.int .i64 at2))) 9 (by kernel_rfl) (by rw [hu]; exact HSM.out _ (MM.out.blk 0 rfl) (MM.out.blk 1 rfl)) (fun hHeld => ?_)
  rw [hu] at hHeld ⊢
  clear hu
  refine wpAnyY_take (i := 0) (v := ?_) rfl (by kernel_rfl) (by kernel_rfl) (by kernel_rfl) (by kernel_rfl) (fun _ _ _ h => h) (Or.inl ⟨by rfl, ?_⟩) (by assumption) ?_
  rotate_left 1
  · (intro w' hSw; obtain ⟨s0, s1, s2⟩ := hSw; go_simp); try with_reducible rfl
  try simp only [Act.put, List.setIfInBounds_toArray, List.set_cons_zero, List.set_cons_succ, Nat.zero_add]
  refine wpAnyY_take (i := 1) (v := ?_) rfl (by kernel_rfl) (by kernel_rfl) (by kernel_rfl) (by kernel_rfl) (fun _ _ _ h => h) (Or.inl ⟨by rfl, ?_⟩) (by assumption) ?_
  rotate_left 1
  · (intro w' hSw; obtain ⟨s0, s1, s2⟩ := hSw; go_simp); try with_reducible rfl
  try simp only [Act.put, List.setIfInBounds_toArray, List.set_cons_zero, List.set_cons_succ, Nat.zero_add]
  refine wpAnyY_take (i := 2) (v := ?_) rfl (by kernel_rfl) (by kernel_rfl) (by kernel_rfl) (by kernel_rfl) (fun _ _ _ h => h) (Or.inl ⟨by rfl, ?_⟩) (by assumption) ?_
  rotate_left 1
  · (intro w' hSw; obtain ⟨s0, s1, s2⟩ := hSw; go_simp); try with_reducible rfl
  try simp only [Act.put, List.setIfInBounds_toArray, List.set_cons_zero, List.set_cons_succ, Nat.zero_add]
  refine wpAnyY_take (i := 3) (v := ?_) rfl (by kernel_rfl) (by kernel_rfl) (by kernel_rfl) (by kernel_rfl) (fun _ _ _ h => h) (Or.inl ⟨by rfl, ?_⟩) (by assumption) ?_
  rotate_left 1
  · (intro w' hSw; obtain ⟨s0, s1, s2⟩ := hSw; go_simp); try with_reducible rfl
  try simp only [Act.put, List.setIfInBounds_toArray, List.set_cons_zero, List.set_cons_succ, Nat.zero_add]
  refine wpAnyY_take (i := 4) (v := ?_) rfl (by kernel_rfl) (by kernel_rfl) (by kernel_rfl) (by kernel_rfl) (fun _ _ _ h => h) (Or.inl ⟨by rfl, ?_⟩) (by assumption) ?_
  rotate_left 1
  · (intro w' hSw; obtain ⟨s0, s1, s2⟩ := hSw; go_simp); try with_reducible rfl
  try simp only [Act.put, List.setIfInBounds_toArray, List.set_cons_zero, List.set_cons_succ, Nat.zero_add]
  refine wpAnyY_one (i := 5) rfl (by kernel_rfl) (fun K hK => ?_)
  go_simp
  refine (HKD.out _ HRM.out HLRM.out).mono ?_
  rintro _ v1 ⟨vk, rfl, hown, hb⟩
  obtain ⟨Ak, ck, rfl⟩ := hown.shape
  clear hown
  have MM2 : Hid (Mem w v1 ([.blk p5 24 #[.int .i64 m.next, .slice A n c], .blk w.heap.size 74 #[.int .i64 ak, .int .i64 aa, .int .i64 ab, .int .i64 at2, .string wd, .string tx]])) := Lib.hid (MM.out.call hb)
  clear MM
  have MM := MM2
  clear MM2
  have HRM2 : Hid (RowOf 7 ENode v1 (fun b => b < B1) A m.nodes) := Lib.hid (HRM.out.keep ENode.stays (Keep.below hb (fun b h => Nat.lt_of_lt_of_le (h) HLRM.out)) (fun _ h => h))
  have HLRM2 : Hid (B1 ≤ v1.heap.size) := Lib.hid (Nat.le_trans HLRM.out hb.size)
  clear HRM HLRM
  have HRM := HRM2; have HLRM := HLRM2
  clear HRM2 HLRM2
  clear hb
  go_simp
  have hHeldv1 := HSM.out _ (MM.out.blk 0 rfl) (MM.out.blk 1 rfl)
  refine hK.out _ _ (fun _ => HSM.out _ (MM.out.blk 0 rfl) (MM.out.blk 1 rfl)) ?_
  clear hK K
  try simp only [Act.put, List.setIfInBounds_toArray, List.set_cons_zero, List.set_cons_succ, Nat.zero_add]
  refine wpAnyY_take (i := 6) (v := ?_) rfl (by kernel_rfl) (by kernel_rfl) (by kernel_rfl) (by kernel_rfl) (fun _ _ _ h => h) (Or.inl ⟨by rfl, ?_⟩) (by assumption) ?_
  rotate_left 1
  · (intro w' hSw; obtain ⟨s0, s1, s2⟩ := hSw; go_simp); try with_reducible rfl
  try simp only [Act.put, List.setIfInBounds_toArray, List.set_cons_zero, List.set_cons_succ, Nat.zero_add]
  refine wpAnyY_take (i := 7) (v := ?_) rfl (by kernel_rfl) (by kernel_rfl) (by kernel_rfl) (by kernel_rfl) (fun _ _ _ h => h) (Or.inl ⟨by rfl, ?_⟩) (by assumption) ?_
  rotate_left 1
  · (intro w' hSw; obtain ⟨s0, s1, s2⟩ := hSw; go_simp); try with_reducible rfl
  try simp only [Act.put, List.setIfInBounds_toArray, List.set_cons_zero, List.set_cons_succ, Nat.zero_add]
  refine wpAnyY_one (i := 8) rfl (by kernel_rfl) (fun K hK => ?_)
  go_simp
  refine (HRQ.out _).mono ?_
  rintro _ v2 ⟨rfl, hb⟩
  have MM2 : Hid (Mem w v2 ([.blk p5 24 #[.int .i64 m.next, .slice A n c], .blk w.heap.size 74 #[.int .i64 ak, .int .i64 aa, .int .i64 ab, .int .i64 at2, .string wd, .string tx]])) := Lib.hid (MM.out.call hb)
  clear MM
  have MM := MM2
  clear MM2
  have HRM2 : Hid (RowOf 7 ENode v2 (fun b => b < B1) A m.nodes) := Lib.hid (HRM.out.keep ENode.stays (Keep.below hb (fun b h => Nat.lt_of_lt_of_le (h) HLRM.out)) (fun _ h => h))
  have HLRM2 : Hid (B1 ≤ v2.heap.size) := Lib.hid (Nat.le_trans HLRM.out hb.size)
  clear HRM HLRM
  have HRM := HRM2; have HLRM := HLRM2
  clear HRM2 HLRM2
  clear hb
  go_simp
  have hHeldv2 := HSM.out _ (MM.out.blk 0 rfl) (MM.out.blk 1 rfl)
  refine hK.out _ _ (fun _ => HSM.out _ (MM.out.blk 0 rfl) (MM.out.blk 1 rfl)) ?_
  clear hK K
  try simp only [Act.put, List.setIfInBounds_toArray, List.set_cons_zero, List.set_cons_succ, Nat.zero_add]
  refine wpAnyY_one0 (i := 9) rfl (by kernel_rfl) (by kernel_rfl) (fun K hK => ?_)
  go_simp
  refine hK.out _ _ ?_
  clear hK K
  try simp only [Act.put, List.setIfInBounds_toArray, List.set_cons_zero, List.set_cons_succ, Nat.zero_add]
  refine wpAnyY_done (by kernel_rfl) ?_ _
  clear hHeld hHeldv1 hHeldv2 HKD HRQ HSM
  go_upto_if 47 with fail
  go_cut [8, 9] (fun s8 s9 wx => s8 = .string ro ∧ s9 = .int .i64 pl ∧ Mem w wx ([.blk p5 24 #[.int .i64 m.next, .slice A n c], .blk w.heap.size 74 #[.int .i64 ak, .int .i64 aa, .int .i64 ab, .int .i64 at2, .string wd, .string tx]]) ∧ RowOf 7 ENode wx (fun b => b < B1) A m.nodes ∧ B1 ≤ wx.heap.size)
  case first =>
    by_cases hy0 : y = 0
    · obtain ⟨e1, e2⟩ := HR0.out hy0
      subst hy0
      have G1 := Lib.hid e1; have G2 := Lib.hid e2
      clear e1 e2 HR0 HR1
      go_wp2_with fail
      go_meet
      case rel => exact ⟨by rw [G1.out], by rw [G2.out], MM.out, HRM.out, HLRM.out⟩
    · obtain ⟨e1, e2⟩ := HR1.out hy0
      have g1 : (y == 0) = false := by simp; exact hy0
      have G1 := Lib.hid e1; have G2 := Lib.hid e2
      clear e1 e2 hy0 HR0 HR1
      go_wp2_with fail
      go_meet
      case rel => exact ⟨by rw [G1.out], by rw [G2.out], MM.out, HRM.out, HLRM.out⟩
  case rest =>
    obtain ⟨rfl, rfl, hm, hr, hbl⟩ := hcut
    clear MM HRM HLRM
    obtain ⟨c1, rfl⟩ : ∃ v : World, v = wc := ⟨_, rfl⟩
    have MM := Lib.hid hm; have HRM := Lib.hid hr; have HLRM := Lib.hid hbl
    clear hm hr hbl
    have HAD := Lib.hid (fun (w' : World) (h : RowOf 7 ENode w' (fun b => b < B1) A m.nodes) (hB : B1 ≤ w'.heap.size) => addA_any A c m w' (fun b => b < B1) (HF1.out _ hB) h HNO.out HLN.out (by rw [HN.out]; omega) y hyr ro hros pl hplr ⟨#[78, 111, 100, 101]⟩ (by decide))
    rw [HN.out] at HAD
    obtain ⟨AM, hAM⟩ : ∃ z, addM m y ro pl ⟨#[78, 111, 100, 101]⟩ = z := ⟨_, rfl⟩
    obtain ⟨EA, hEA⟩ : ∃ z, addE m y ro pl ⟨#[78, 111, 100, 101]⟩ = z := ⟨_, rfl⟩
    have HAM := Lib.hid hAM; have HEA := Lib.hid hEA
    clear hAM hEA
    have mc0 := (MM.out.blk 0 rfl).cell 0
    have mc1 := (MM.out.blk 0 rfl).cell 1
    have mlt := (MM.out.blk 0 rfl).lt
    simp at mc0 mc1
    go_wp2_with fail
    refine (HAD.out _ HRM.out HLRM.out).mono ?_
    rintro _ d1 ⟨⟨v, rfl, hres⟩, hb⟩
    obtain ⟨nxa, Aa, na, ca2, iva, rfl, hadd⟩ := added_as HCM.out hres
    rw [HEA.out, HAM.out] at hadd
    rw [HEA.out]
    clear hres HAD
    obtain ⟨T, hT⟩ : ∃ z, d1.heap.size = z := ⟨_, rfl⟩
    have HADD : Hid (EA = 0 → nxa = m.next + 1 ∧ iva = m.next ∧ na = AM.nodes.length ∧ AM.next = m.next + 1 ∧ RowOf 7 ENode d1 (fun b => b < T) Aa AM.nodes) := Lib.hid (by rw [← hT]; exact hadd)
    have HLRX0 : Hid (T ≤ d1.heap.size) := Lib.hid (Nat.le_of_eq hT.symm)
    clear hadd hT
    clear mc0 mc1 mlt
    have MM2 : Hid (Mem w d1 ([.blk p5 24 #[.int .i64 m.next, .slice A n c], .blk w.heap.size 74 #[.int .i64 ak, .int .i64 aa, .int .i64 ab, .int .i64 at2, .string wd, .string tx]])) := Lib.hid (MM.out.call hb)
    clear MM
    have MM := MM2
    clear MM2
    have HRM2 : Hid (RowOf 7 ENode d1 (fun b => b < B1) A m.nodes) := Lib.hid (HRM.out.keep ENode.stays (Keep.below hb (fun b h => Nat.lt_of_lt_of_le (h) HLRM.out)) (fun _ h => h))
    have HLRM2 : Hid (B1 ≤ d1.heap.size) := Lib.hid (Nat.le_trans HLRM.out hb.size)
    clear HRM HLRM
    have HRM := HRM2; have HLRM := HLRM2
    clear HRM2 HLRM2
    clear hb
    obtain ⟨p10, hg⟩ : ∃ x, d1.heap.size = x := ⟨_, rfl⟩
    obtain ⟨d2, hu⟩ : ∃ z9 : World, d1.alloc (.cells #[.int .i64 nxa, .slice Aa na ca2] 24) = z9 := ⟨_, rfl⟩
    have hb : Below d1.heap.size d1 d2 := by rw [← hu]; exact (Below.refl _ _).alloc (Nat.le_refl _) _
    have MM2 : Hid (Mem w d2 ([.blk p10 24 #[.int .i64 nxa, .slice Aa na ca2], .blk p5 24 #[.int .i64 m.next, .slice A n c], .blk w.heap.size 74 #[.int .i64 ak, .int .i64 aa, .int .i64 ab, .int .i64 at2, .string wd, .string tx]])) := Lib.hid (by rw [← hu]; exact MM.out.allocG hg #[.int .i64 nxa, .slice Aa na ca2] 24)
    clear MM
    have MM := MM2
    clear MM2
    have HRM2 : Hid (RowOf 7 ENode d2 (fun b => b < B1) A m.nodes) := Lib.hid (HRM.out.keep ENode.stays (Keep.below hb (fun b h => Nat.lt_of_lt_of_le (h) HLRM.out)) (fun _ h => h))
    have HLRM2 : Hid (B1 ≤ d2.heap.size) := Lib.hid (Nat.le_trans HLRM.out hb.size)
    clear HRM HLRM
    have HRM := HRM2; have HLRM := HLRM2
    clear HRM2 HLRM2
    have HU9 := Lib.hid hu; have HHp10 : Hid (d1.heap.size = p10) := Lib.hid hg
    clear hb hu hg
    have HBD : Hid (Below d1.heap.size d1 d2) := Lib.hid (by rw [← HU9.out]; exact (Below.refl _ _).alloc (Nat.le_refl _) _)
    go_upto_region 10 with fail
    (try rw [HU9.out])
    (try rw [HHp10.out])
    (try rw [HU9.out])
    clear HU9
    go_upto_if 58 with fail
    go_cut [4] (fun s4 wx => s4 = .bool false ∧ Mem w wx ([.blk p5 24 #[.int .i64 m.next, .slice A n c], .blk w.heap.size 74 #[.int .i64 ak, .int .i64 aa, .int .i64 ab, .int .i64 at2, .string wd, .string tx]]) ∧ RowOf 7 ENode wx (fun b => b < B1) A m.nodes ∧ B1 ≤ wx.heap.size)
    case first =>
      by_cases hA0 : EA = 0
      rotate_left 1
      · have g1 : (EA == 0) = false := by simp; exact hA0
        go_wp2_with fail
        have MM2 : Hid (Mem w d2 ([.blk p5 24 #[.int .i64 m.next, .slice A n c], .blk w.heap.size 74 #[.int .i64 ak, .int .i64 aa, .int .i64 ab, .int .i64 at2, .string wd, .string tx]])) := Lib.hid (Mem.pick0 MM.out [1, 2] [.blk p5 24 #[.int .i64 m.next, .slice A n c], .blk w.heap.size 74 #[.int .i64 ak, .int .i64 aa, .int .i64 ab, .int .i64 at2, .string wd, .string tx]] (by decide) rfl)
        clear MM
        have MM := MM2
        clear MM2
        go_meet
        case rel => exact ⟨rfl, MM.out, HRM.out, HLRM.out⟩
      · subst hA0
        obtain ⟨rfl, rfl, hna, hnn, hrx⟩ := HADD.out rfl
        obtain ⟨hcx, hfx, _⟩ := add_step HEA.out HFW.out
        obtain ⟨hre, hrl⟩ := add_removed HEA.out
        have hn1 := HCM.out.1.1.1; have hn3 := HCM.out.1.1.2.1
        have hn2 : (AM.nodes.length : Nat) ≤ 4097 := by rw [HAM.out] at hcx; have := hcx.1.1.2.2; omega
        rw [HAM.out] at hcx hfx hre hrl
        have HRX : Hid (RowOf 7 ENode d2 (fun b => b < T) Aa AM.nodes) := Lib.hid (hrx.keep ENode.stays (Keep.below HBD.out (fun b h => Nat.lt_of_lt_of_le h HLRX0.out)) (fun _ h => h))
        have HLRX : Hid (T ≤ d2.heap.size) := Lib.hid (Nat.le_trans HLRX0.out HBD.out.size)
        have HRV := Lib.hid (fun (w' : World) (h : RowOf 7 ENode w' (fun b => b < T) Aa AM.nodes) (hB : T ≤ w'.heap.size) => removeA_any Aa ca2 AM w' (fun b => b < T) (fun b h => Nat.lt_of_lt_of_le h hB) h (node_ok hcx) (lens_few hcx hfx (by omega)) (by omega) m.next (by unfold InR; omega))
        rw [hre, hrl, hnn, ← hna] at HRV
        clear hcx hfx hre hrl hrx hna hnn HADD
        have zc0 := (MM.out.blk 0 rfl).cell 0
        have zc1 := (MM.out.blk 0 rfl).cell 1
        have zlt := (MM.out.blk 0 rfl).lt
        simp at zc0 zc1
        go_wp2_with fail
        refine (HRV.out _ HRX.out HLRX.out).mono ?_
        rintro _ e1 ⟨⟨v, rfl, hres⟩, hb⟩
        obtain ⟨Ay, cy, rfl, hry⟩ : ∃ Ay cy, v = .tuple #[.agg #[.int .i64 (m.next + 1), .slice Ay n cy], .int .i64 0] ∧ RowOf 7 ENode e1 (fun b => b < e1.heap.size) Ay m.nodes := by
          rcases hres with ⟨e, _⟩ | ⟨_, vl, l, rfl, ho, hl⟩
          · exact absurd rfl e
          · obtain ⟨A', c', e1, _, _, h3⟩ := ho.isRow (F := fun b => b < e1.heap.size) (fun b _ h => h)
            rw [hl] at h3 e1
            subst e1
            exact ⟨A', c', by rw [HN.out], h3⟩
        clear hres HRV HRX HLRX
        obtain ⟨T3, hT3⟩ : ∃ z, e1.heap.size = z := ⟨_, rfl⟩
        have HRY : Hid (RowOf 7 ENode e1 (fun b => b < T3) Ay m.nodes) := Lib.hid (by rw [← hT3]; exact hry)
        have HLRY : Hid (T3 ≤ e1.heap.size) := Lib.hid (Nat.le_of_eq hT3.symm)
        clear hry hT3
        clear zc0 zc1 zlt
        have MM2 : Hid (Mem w e1 ([.blk p10 24 #[.int .i64 (m.next + 1), .slice Aa na ca2], .blk p5 24 #[.int .i64 m.next, .slice A n c], .blk w.heap.size 74 #[.int .i64 ak, .int .i64 aa, .int .i64 ab, .int .i64 at2, .string wd, .string tx]])) := Lib.hid (MM.out.call hb)
        clear MM
        have MM := MM2
        clear MM2
        have HRM2 : Hid (RowOf 7 ENode e1 (fun b => b < B1) A m.nodes) := Lib.hid (HRM.out.keep ENode.stays (Keep.below hb (fun b h => Nat.lt_of_lt_of_le (h) HLRM.out)) (fun _ h => h))
        have HLRM2 : Hid (B1 ≤ e1.heap.size) := Lib.hid (Nat.le_trans HLRM.out hb.size)
        clear HRM HLRM
        have HRM := HRM2; have HLRM := HLRM2
        clear HRM2 HLRM2
        clear hb
        have HPE1 : Hid (B1 ≤ e1.heap.size ∧ T3 ≤ e1.heap.size) := Lib.hid ⟨HLRM.out, HLRY.out⟩
        obtain ⟨p13, hg⟩ : ∃ x, e1.heap.size = x := ⟨_, rfl⟩
        obtain ⟨e2, hu⟩ : ∃ z9 : World, e1.alloc (.cells #[.int .i64 (m.next + 1), .slice Ay n cy] 24) = z9 := ⟨_, rfl⟩
        have hb : Below e1.heap.size e1 e2 := by rw [← hu]; exact (Below.refl _ _).alloc (Nat.le_refl _) _
        have MM2 : Hid (Mem w e2 ([.blk p13 24 #[.int .i64 (m.next + 1), .slice Ay n cy], .blk p10 24 #[.int .i64 (m.next + 1), .slice Aa na ca2], .blk p5 24 #[.int .i64 m.next, .slice A n c], .blk w.heap.size 74 #[.int .i64 ak, .int .i64 aa, .int .i64 ab, .int .i64 at2, .string wd, .string tx]])) := Lib.hid (by rw [← hu]; exact MM.out.allocG hg #[.int .i64 (m.next + 1), .slice Ay n cy] 24)
        clear MM
        have MM := MM2
        clear MM2
        have HRM2 : Hid (RowOf 7 ENode e2 (fun b => b < B1) A m.nodes) := Lib.hid (HRM.out.keep ENode.stays (Keep.below hb (fun b h => Nat.lt_of_lt_of_le (h) HLRM.out)) (fun _ h => h))
        have HLRM2 : Hid (B1 ≤ e2.heap.size) := Lib.hid (Nat.le_trans HLRM.out hb.size)
        clear HRM HLRM
        have HRM := HRM2; have HLRM := HLRM2
        clear HRM2 HLRM2
        have HRY2 : Hid (RowOf 7 ENode e2 (fun b => b < T3) Ay m.nodes) := Lib.hid (HRY.out.keep ENode.stays (Keep.below hb (fun b h => Nat.lt_of_lt_of_le (h) HLRY.out)) (fun _ h => h))
        have HLRY2 : Hid (T3 ≤ e2.heap.size) := Lib.hid (Nat.le_trans HLRY.out hb.size)
        clear HRY HLRY
        have HRY := HRY2; have HLRY := HLRY2
        clear HRY2 HLRY2
        have HU9 := Lib.hid hu; have HHp13 : Hid (e1.heap.size = p13) := Lib.hid hg
        clear hb hu hg
        have HPB : Hid (B1 ≤ p13 ∧ T3 ≤ p13) := Lib.hid (by have h1 := HHp13.out; have h2 := HPE1.out; omega)
        go_upto_region 12 with fail
        (try rw [HU9.out])
        (try rw [HHp13.out])
        (try rw [HU9.out])
        clear HU9
        have mc0 := (MM.out.blk 2 rfl).cell 0
        have mlt := (MM.out.blk 2 rfl).lt
        simp at mc0
        have yc0 := (MM.out.blk 0 rfl).cell 0
        have yf0 := (MM.out.blk 0 rfl).frozen 0
        have ylt := (MM.out.blk 0 rfl).lt
        simp at yc0
        go_upto_region 13 with fail
        clear mc0 mlt yf0 yc0 ylt
        obtain ⟨e3, hu⟩ : ∃ z9 : World, e2.setCell ⟨p13, 0, none⟩ (.int .i64 m.next) = z9 := ⟨_, rfl⟩
        have hsz : e3.heap.size = e2.heap.size := by rw [← hu]; simp
        have HRM2 : Hid (RowOf 7 ENode e3 (fun b => b < B1) A m.nodes) := Lib.hid (by rw [← hu]; exact HRM.out.keep ENode.stays (keep_set _ ⟨p13, 0, none⟩ _ (fun b hb => by have h9 := HPB.out; show b ≠ p13; have h8 : b < B1 := hb; omega)) (fun _ h => h))
        have HLRM2 : Hid (B1 ≤ e3.heap.size) := Lib.hid (by rw [hsz]; exact HLRM.out)
        clear HRM HLRM
        have HRM := HRM2; have HLRM := HLRM2
        clear HRM2 HLRM2
        have HRY2 : Hid (RowOf 7 ENode e3 (fun b => b < T3) Ay m.nodes) := Lib.hid (by rw [← hu]; exact HRY.out.keep ENode.stays (keep_set _ ⟨p13, 0, none⟩ _ (fun b hb => by have h9 := HPB.out; show b ≠ p13; have h8 : b < T3 := hb; omega)) (fun _ h => h))
        have HLRY2 : Hid (T3 ≤ e3.heap.size) := Lib.hid (by rw [hsz]; exact HLRY.out)
        clear HRY HLRY
        have HRY := HRY2; have HLRY := HLRY2
        clear HRY2 HLRY2
        have MM2 : Hid (Mem w e3 ([.blk p13 24 #[.int .i64 m.next, .slice Ay n cy], .blk p10 24 #[.int .i64 (m.next + 1), .slice Aa na ca2], .blk p5 24 #[.int .i64 m.next, .slice A n c], .blk w.heap.size 74 #[.int .i64 ak, .int .i64 aa, .int .i64 ab, .int .i64 at2, .string wd, .string tx]])) := Lib.hid (by rw [← hu]; exact MM.out.set_ 0 rfl 0 _)
        clear MM
        have MM := MM2
        clear MM2
        (try rw [hu])
        clear hu hsz
        have yc0 := (MM.out.blk 0 rfl).cell 0
        have yc1 := (MM.out.blk 0 rfl).cell 1
        have ylt := (MM.out.blk 0 rfl).lt
        simp at yc0 yc1
        have mc0 := (MM.out.blk 2 rfl).cell 0
        have mc1 := (MM.out.blk 2 rfl).cell 1
        have mlt := (MM.out.blk 2 rfl).lt
        simp at mc0 mc1
        have HSA := Lib.hid (res_is (eqB_yes (rfl : m = m)) (same_any Ay A cy c m m e3 (fun b => b < T3) (fun b => b < B1) (fun b h => Nat.lt_of_lt_of_le h HLRY.out) (fun b h => Nat.lt_of_lt_of_le h HLRM.out) HRY.out HRM.out (by rw [HN.out]; omega)))
        rw [HN.out] at HSA
        go_wp2_with fail
        refine HSA.out.mono ?_
        rintro _ e4 ⟨rfl, hb⟩
        clear HSA HRY HLRY HPE1 HPB
        clear yc0 yc1 ylt mc0 mc1 mlt
        have MM2 : Hid (Mem w e4 ([.blk p13 24 #[.int .i64 m.next, .slice Ay n cy], .blk p10 24 #[.int .i64 (m.next + 1), .slice Aa na ca2], .blk p5 24 #[.int .i64 m.next, .slice A n c], .blk w.heap.size 74 #[.int .i64 ak, .int .i64 aa, .int .i64 ab, .int .i64 at2, .string wd, .string tx]])) := Lib.hid (MM.out.call hb)
        clear MM
        have MM := MM2
        clear MM2
        have HRM2 : Hid (RowOf 7 ENode e4 (fun b => b < B1) A m.nodes) := Lib.hid (HRM.out.keep ENode.stays (Keep.below hb (fun b h => Nat.lt_of_lt_of_le (h) HLRM.out)) (fun _ h => h))
        have HLRM2 : Hid (B1 ≤ e4.heap.size) := Lib.hid (Nat.le_trans HLRM.out hb.size)
        clear HRM HLRM
        have HRM := HRM2; have HLRM := HLRM2
        clear HRM2 HLRM2
        clear hb
        go_wp2_with fail
        have MM2 : Hid (Mem w e4 ([.blk p5 24 #[.int .i64 m.next, .slice A n c], .blk w.heap.size 74 #[.int .i64 ak, .int .i64 aa, .int .i64 ab, .int .i64 at2, .string wd, .string tx]])) := Lib.hid (Mem.pick0 MM.out [2, 3] [.blk p5 24 #[.int .i64 m.next, .slice A n c], .blk w.heap.size 74 #[.int .i64 ak, .int .i64 aa, .int .i64 ab, .int .i64 at2, .string wd, .string tx]] (by decide) rfl)
        clear MM
        have MM := MM2
        clear MM2
        go_meet
        case rel => exact ⟨rfl, MM.out, HRM.out, HLRM.out⟩
    case rest =>
      obtain ⟨rfl, hm, hr, hbl⟩ := hcut
      clear MM HRM HLRM HADD HAM HEA HBD HLRX0
      obtain ⟨f1, rfl⟩ : ∃ v : World, v = wc := ⟨_, rfl⟩
      have MM := Lib.hid hm; have HRM := Lib.hid hr; have HLRM := Lib.hid hbl
      clear hm hr hbl
      have HFD := Lib.hid (fun (w' : World) (h : RowOf 7 ENode w' (fun b => b < B1) A m.nodes) (hB : B1 ≤ w'.heap.size) => findA_any A c m w' (fun b => b < B1) (HF1.out _ hB) h HNO.out HLN.out (by rw [HN.out]; omega) x hxr)
      rw [HN.out] at HFD
      by_cases hx0 : x = 0
      · as_aux_lemma =>
        subst hx0
        have mc0 := (MM.out.blk 0 rfl).cell 0
        have mc1 := (MM.out.blk 0 rfl).cell 1
        have mlt := (MM.out.blk 0 rfl).lt
        simp at mc0 mc1
        go_wp2_with fail
        refine (HFD.out _ HRM.out HLRM.out).mono ?_
        rintro _ g1 ⟨⟨v, rfl, hres⟩, hb⟩
        obtain rfl := found_zero HCM.out hres
        clear hres HFD
        clear mc0 mc1 mlt
        have MM2 : Hid (Mem w g1 ([.blk p5 24 #[.int .i64 m.next, .slice A n c], .blk w.heap.size 74 #[.int .i64 ak, .int .i64 aa, .int .i64 ab, .int .i64 at2, .string wd, .string tx]])) := Lib.hid (MM.out.call hb)
        clear MM
        have MM := MM2
        clear MM2
        have HRM2 : Hid (RowOf 7 ENode g1 (fun b => b < B1) A m.nodes) := Lib.hid (HRM.out.keep ENode.stays (Keep.below hb (fun b h => Nat.lt_of_lt_of_le (h) HLRM.out)) (fun _ h => h))
        have HLRM2 : Hid (B1 ≤ g1.heap.size) := Lib.hid (Nat.le_trans HLRM.out hb.size)
        clear HRM HLRM
        have HRM := HRM2; have HLRM := HLRM2
        clear HRM2 HLRM2
        clear hb
        obtain ⟨p15, hg⟩ : ∃ x, g1.heap.size = x := ⟨_, rfl⟩
        obtain ⟨g2, hu⟩ : ∃ z9 : World, g1.alloc (.cells #[.int .i64 0, .string ⟨#[]⟩, .int .i64 0, .string ⟨#[]⟩, .slice none 0 0, .slice none 0 0, .slice none 0 0] 38) = z9 := ⟨_, rfl⟩
        have hb : Below g1.heap.size g1 g2 := by rw [← hu]; exact (Below.refl _ _).alloc (Nat.le_refl _) _
        have MM2 : Hid (Mem w g2 ([.blk p15 38 #[.int .i64 0, .string ⟨#[]⟩, .int .i64 0, .string ⟨#[]⟩, .slice none 0 0, .slice none 0 0, .slice none 0 0], .blk p5 24 #[.int .i64 m.next, .slice A n c], .blk w.heap.size 74 #[.int .i64 ak, .int .i64 aa, .int .i64 ab, .int .i64 at2, .string wd, .string tx]])) := Lib.hid (by rw [← hu]; exact MM.out.allocG hg #[.int .i64 0, .string ⟨#[]⟩, .int .i64 0, .string ⟨#[]⟩, .slice none 0 0, .slice none 0 0, .slice none 0 0] 38)
        clear MM
        have MM := MM2
        clear MM2
        have HRM2 : Hid (RowOf 7 ENode g2 (fun b => b < B1) A m.nodes) := Lib.hid (HRM.out.keep ENode.stays (Keep.below hb (fun b h => Nat.lt_of_lt_of_le (h) HLRM.out)) (fun _ h => h))
        have HLRM2 : Hid (B1 ≤ g2.heap.size) := Lib.hid (Nat.le_trans HLRM.out hb.size)
        clear HRM HLRM
        have HRM := HRM2; have HLRM := HLRM2
        clear HRM2 HLRM2
        have HU9 := Lib.hid hu; have HHp15 : Hid (g1.heap.size = p15) := Lib.hid hg
        clear hb hu hg
        go_upto_region 16 with fail
        (try rw [HU9.out])
        (try rw [HHp15.out])
        (try rw [HU9.out])
        clear HU9
        go_wp2
        go_ret
        exact ⟨by simp, MM.out.below⟩
      obtain ⟨zn, hzn, hzi⟩ := HXP.out.resolve_left hx0
      obtain ⟨px, hpx⟩ : ∃ p, zn.parent = p := ⟨_, rfl⟩
      obtain ⟨r0, hr0⟩ : ∃ p, zn.role = p := ⟨_, rfl⟩
      obtain ⟨con, hcon⟩ : ∃ p, zn.concept = p := ⟨_, rfl⟩
      have hpxr : InR px := by rw [← hpx]; exact (HNO.out zn hzn).2.1
      have hrs0 : r0.size ≤ 9223372036854775807 := by rw [← hr0]; exact (HNO.out zn hzn).1.2.1
      have HZN := Lib.hid hzn; have HZI := Lib.hid hzi; have HPX := Lib.hid hpx; have HR9 := Lib.hid hr0
      have mc0 := (MM.out.blk 0 rfl).cell 0
      have mc1 := (MM.out.blk 0 rfl).cell 1
      have mlt := (MM.out.blk 0 rfl).lt
      simp at mc0 mc1
      clear hzn hzi
      go_wp2_with fail
      refine (HFD.out _ HRM.out HLRM.out).mono ?_
      rintro _ g1 ⟨⟨v, rfl, hres⟩, hb⟩
      rw [← HZI.out] at hres
      obtain ⟨P, np, cp, K, nk, ck', R, nr, cr, rfl⟩ := found_there HCM.out HZN.out hres
      rw [HZI.out, hpx, hr0, hcon]
      clear hres HFD hpx hr0 hcon HXP
      clear mc0 mc1 mlt
      have MM2 : Hid (Mem w g1 ([.blk p5 24 #[.int .i64 m.next, .slice A n c], .blk w.heap.size 74 #[.int .i64 ak, .int .i64 aa, .int .i64 ab, .int .i64 at2, .string wd, .string tx]])) := Lib.hid (MM.out.call hb)
      clear MM
      have MM := MM2
      clear MM2
      have HRM2 : Hid (RowOf 7 ENode g1 (fun b => b < B1) A m.nodes) := Lib.hid (HRM.out.keep ENode.stays (Keep.below hb (fun b h => Nat.lt_of_lt_of_le (h) HLRM.out)) (fun _ h => h))
      have HLRM2 : Hid (B1 ≤ g1.heap.size) := Lib.hid (Nat.le_trans HLRM.out hb.size)
      clear HRM HLRM
      have HRM := HRM2; have HLRM := HLRM2
      clear HRM2 HLRM2
      clear hb
      obtain ⟨p15, hg⟩ : ∃ x, g1.heap.size = x := ⟨_, rfl⟩
      obtain ⟨g2, hu⟩ : ∃ z9 : World, g1.alloc (.cells #[.int .i64 x, .string con, .int .i64 px, .string r0, .slice P np cp, .slice K nk ck', .slice R nr cr] 38) = z9 := ⟨_, rfl⟩
      have hb : Below g1.heap.size g1 g2 := by rw [← hu]; exact (Below.refl _ _).alloc (Nat.le_refl _) _
      have MM2 : Hid (Mem w g2 ([.blk p15 38 #[.int .i64 x, .string con, .int .i64 px, .string r0, .slice P np cp, .slice K nk ck', .slice R nr cr], .blk p5 24 #[.int .i64 m.next, .slice A n c], .blk w.heap.size 74 #[.int .i64 ak, .int .i64 aa, .int .i64 ab, .int .i64 at2, .string wd, .string tx]])) := Lib.hid (by rw [← hu]; exact MM.out.allocG hg #[.int .i64 x, .string con, .int .i64 px, .string r0, .slice P np cp, .slice K nk ck', .slice R nr cr] 38)
      clear MM
      have MM := MM2
      clear MM2
      have HRM2 : Hid (RowOf 7 ENode g2 (fun b => b < B1) A m.nodes) := Lib.hid (HRM.out.keep ENode.stays (Keep.below hb (fun b h => Nat.lt_of_lt_of_le (h) HLRM.out)) (fun _ h => h))
      have HLRM2 : Hid (B1 ≤ g2.heap.size) := Lib.hid (Nat.le_trans HLRM.out hb.size)
      clear HRM HLRM
      have HRM := HRM2; have HLRM := HLRM2
      clear HRM2 HLRM2
      have HU9 := Lib.hid hu; have HHp15 : Hid (g1.heap.size = p15) := Lib.hid hg
      clear hb hu hg
      go_upto_region 16 with fail
      (try rw [HU9.out])
      (try rw [HHp15.out])
      (try rw [HU9.out])
      clear HU9
      obtain ⟨KW, hKW⟩ : ∃ L, kidR m r0 px = L := ⟨_, rfl⟩
      have hkw : KW.length ≤ 4096 := by rw [← hKW]; exact kidR_len HCM.out _ _
      have HKD2 := Lib.hid (fun (w' : World) (h : RowOf 7 ENode w' (fun b => b < B1) A m.nodes) (hB : B1 ≤ w'.heap.size) => kidsA_any A c m w' (fun b => b < B1) (HF1.out _ hB) h HNO.out (by rw [HN.out]; omega) px hpxr r0)
      rw [hKW, HN.out] at HKD2
      have HKW := Lib.hid hKW
      clear hKW
      have mc0 := (MM.out.blk 1 rfl).cell 0
      have mc1 := (MM.out.blk 1 rfl).cell 1
      have mlt := (MM.out.blk 1 rfl).lt
      simp at mc0 mc1
      have nc2 := (MM.out.blk 0 rfl).cell 2
      have nc3 := (MM.out.blk 0 rfl).cell 3
      have nlt := (MM.out.blk 0 rfl).lt
      simp at nc2 nc3
      go_wp2_with fail
      refine (HKD2.out _ HRM.out HLRM.out).mono ?_
      rintro _ g3 ⟨v, rfl, hown, hb⟩
      obtain ⟨Ak, ck, rfl⟩ := hown.shape
      have hkr : RowOf 1 EInt g3 (fun b => b < g3.heap.size) Ak KW := by
        obtain ⟨A', c', e, _, _, h3⟩ := hown.isRow (F := fun b => b < g3.heap.size) (fun b _ h => h)
        injection e with e1; subst e1; exact h3
      clear hown HKD2
      clear mc0 mc1 mlt nc2 nc3 nlt
      have MM2 : Hid (Mem w g3 ([.blk p15 38 #[.int .i64 x, .string con, .int .i64 px, .string r0, .slice P np cp, .slice K nk ck', .slice R nr cr], .blk p5 24 #[.int .i64 m.next, .slice A n c], .blk w.heap.size 74 #[.int .i64 ak, .int .i64 aa, .int .i64 ab, .int .i64 at2, .string wd, .string tx]])) := Lib.hid (MM.out.call hb)
      clear MM
      have MM := MM2
      clear MM2
      have HRM2 : Hid (RowOf 7 ENode g3 (fun b => b < B1) A m.nodes) := Lib.hid (HRM.out.keep ENode.stays (Keep.below hb (fun b h => Nat.lt_of_lt_of_le (h) HLRM.out)) (fun _ h => h))
      have HLRM2 : Hid (B1 ≤ g3.heap.size) := Lib.hid (Nat.le_trans HLRM.out hb.size)
      clear HRM HLRM
      have HRM := HRM2; have HLRM := HLRM2
      clear HRM2 HLRM2
      clear hb
      obtain ⟨TK, hTK⟩ : ∃ z, g3.heap.size = z := ⟨_, rfl⟩
      have HRK : Hid (RowOf 1 EInt g3 (fun b => b < TK) Ak KW) := Lib.hid (by rw [← hTK]; exact hkr)
      have HLRK : Hid (TK ≤ g3.heap.size) := Lib.hid (Nat.le_of_eq hTK.symm)
      clear hkr hTK
      obtain ⟨kw, hkwl⟩ : ∃ n, KW.length = n := ⟨_, rfl⟩
      rw [hkwl] at hkw ⊢
      have HKWL := Lib.hid hkwl
      clear hkwl
      obtain ⟨fi, hfi⟩ : ∃ n, firstI KW x = n := ⟨_, rfl⟩
      have hfl : fi ≤ kw := by rw [← hfi, ← HKWL.out]; exact first_le _ _
      have HFI := Lib.hid hfi
      clear hfi
      go_upto_region 20 with fail
      go_loopg [18] kw (fun n s18 wx => ∃ i : Nat, s18 = .int .i64 i ∧ n = kw - i ∧ i ≤ fi ∧ g3 = wx)
      case atStart => exact ⟨0, rfl, rfl, Nat.zero_le _, rfl⟩
      case round =>
        obtain ⟨i, rfl, rfl, hif, rfl⟩ := hrel
        have hi0 : (0 : Int) ≤ i := by omega
        by_cases hgo : i < fi
        · have hik : i < KW.length := by rw [HKWL.out]; omega
          have hil : (i : Int) < kw := by omega
          obtain ⟨b, off, rfl, _, d0⟩ := int_at HRK.out hik
          have hne : KW[i] ≠ x := first_not hik (by rw [HFI.out]; exact hgo)
          obtain ⟨ki, hki⟩ : ∃ k, KW[i] = k := ⟨_, rfl⟩
          rw [hki] at hne d0
          have hne2 : (ki != x) = true := by simp; exact hne
          clear hki hne hik
          go_wp2_with fail
          go_roundg (kw - (i + 1))
          case measure => omega
          case rel => exact ⟨i + 1, by go_num, rfl, by omega, rfl⟩
        obtain rfl : i = fi := by omega
        clear hgo hif
        have hstop : ∀ (hlt : i < KW.length), KW[i] = x := fun hlt => first_stop HFI.out hlt
        have HST := Lib.hid hstop
        clear hstop
        go_upto_region 20 with fail
        go_cut [103] (fun s103 wx => s103 = .bool false ∧ g3 = wx)
        case first =>
          by_cases hik : i < kw
          · have hik2 : i < KW.length := by rw [HKWL.out]; exact hik
            have hil : (i : Int) < kw := by omega
            obtain ⟨b, off, rfl, _, d0⟩ := int_at HRK.out hik2
            rw [HST.out hik2] at d0
            clear hik2
            go_wp2_with fail
            go_meet
            case rel => exact ⟨rfl, rfl⟩
          · have hil : ¬ (i : Int) < kw := by omega
            go_wp2_with fail
            go_meet
            case rel => exact ⟨rfl, rfl⟩
        case rest =>
          obtain ⟨rfl, rfl⟩ := hcut
          have HBW : Hid (Below w.heap.size w g3) := Lib.hid MM.out.below
          have HP5W : Hid (∀ V, Below g3.heap.size g3 V → V.cell? ⟨p5, 0, none⟩ = some (.int .i64 m.next) ∧ V.cell? ⟨p5, 1, none⟩ = some (.slice A n c)) := Lib.hid (fun V hb => by
            have h := (MM.out.blk 1 rfl).below hb (MM.out.blk 1 rfl).lt
            have a := h.cell 0; have b := h.cell 1
            simp at a b
            exact ⟨a, b⟩)
          have HP15W : Hid (∀ V, Below g3.heap.size g3 V → V.cell? ⟨p15, 2, none⟩ = some (.int .i64 px) ∧ V.cell? ⟨p15, 3, none⟩ = some (.string r0)) := Lib.hid (fun V hb => by
            have h := (MM.out.blk 0 rfl).below hb (MM.out.blk 0 rfl).lt
            have a := h.cell 2; have b := h.cell 3
            simp at a b
            exact ⟨a, b⟩)
          have HRMW : Hid (∀ V, Below g3.heap.size g3 V → RowOf 7 ENode V (fun b => b < B1) A m.nodes ∧ B1 ≤ V.heap.size) := Lib.hid (fun V hb => ⟨HRM.out.keep ENode.stays (Keep.below hb (fun b h => Nat.lt_of_lt_of_le h HLRM.out)) (fun _ h => h), Nat.le_trans HLRM.out hb.size⟩)
          have HRKW : Hid (∀ V, Below g3.heap.size g3 V → RowOf 1 EInt V (fun b => b < TK) Ak KW) := Lib.hid (fun V hb => HRK.out.keep EInt.stays (Keep.below hb (fun b h => Nat.lt_of_lt_of_le h HLRK.out)) (fun _ h => h))
          clear HRK HLRK
          have HMV := Lib.hid (moveA_any A c m g3 (fun b => b < B1) (HF1.out _ HLRM.out) HRM.out HNO.out HLN.out (by rw [HN.out]; omega) x hxr y hyr ro hros pl hplr)
          rw [HN.out] at HMV
          clear MM HRM HLRM
          have MM : Hid (Mem g3 g3 []) := Lib.hid (Mem.start g3)
          obtain ⟨EM, hEM⟩ : ∃ z, moveE m x y ro pl = z := ⟨_, rfl⟩
          obtain ⟨L1, hL1⟩ : ∃ z, moveL m x y ro pl = z := ⟨_, rfl⟩
          rw [hEM, hL1] at HMV
          have hcodes : EM = 0 ∨ EM = 2 ∨ EM = 21 ∨ EM = 22 ∨ EM = 23 := by
            rw [← hEM, ← HZI.out]; exact move_codes HCM.out HZN.out HYP.out
          have HEM := Lib.hid hEM; have HL1 := Lib.hid hL1; have HCD := Lib.hid hcodes
          have p50 := (HP5W.out g3 (Below.refl _ _)).1; have p51 := (HP5W.out g3 (Below.refl _ _)).2
          clear hEM hL1 hcodes
          go_wp2_with fail
          refine HMV.out.mono ?_
          rintro _ h1 ⟨⟨v, rfl, hres⟩, hb⟩
          obtain ⟨nm, Am, n1, cm, rfl, hmv⟩ := moved_as hres
          clear hres HMV p50 p51
          obtain ⟨T, hT⟩ : ∃ z, h1.heap.size = z := ⟨_, rfl⟩
          have HMVD : Hid (EM = 0 → nm = m.next ∧ n1 = L1.length ∧ RowOf 7 ENode h1 (fun b => b < T) Am L1) := Lib.hid (by rw [← hT]; exact hmv)
          have HLR1 : Hid (T ≤ h1.heap.size) := Lib.hid (Nat.le_of_eq hT.symm)
          clear hmv hT
          have MM2 : Hid (Mem g3 h1 ([])) := Lib.hid (MM.out.call hb)
          clear MM
          have MM := MM2
          clear MM2
          clear hb
          obtain ⟨p19, hg⟩ : ∃ x, h1.heap.size = x := ⟨_, rfl⟩
          obtain ⟨h2, hu⟩ : ∃ z9 : World, h1.alloc (.cells #[.int .i64 nm, .slice Am n1 cm] 24) = z9 := ⟨_, rfl⟩
          have hb : Below h1.heap.size h1 h2 := by rw [← hu]; exact (Below.refl _ _).alloc (Nat.le_refl _) _
          have MM2 : Hid (Mem g3 h2 ([.blk p19 24 #[.int .i64 nm, .slice Am n1 cm]])) := Lib.hid (by rw [← hu]; exact MM.out.allocG hg #[.int .i64 nm, .slice Am n1 cm] 24)
          clear MM
          have MM := MM2
          clear MM2
          have HU9 := Lib.hid hu; have HHp19 : Hid (h1.heap.size = p19) := Lib.hid hg
          clear hb hu hg
          have HBD : Hid (Below h1.heap.size h1 h2) := Lib.hid (by rw [← HU9.out]; exact (Below.refl _ _).alloc (Nat.le_refl _) _)
          go_upto_region 23 with fail
          (try rw [HU9.out])
          (try rw [HHp19.out])
          (try rw [HU9.out])
          clear HU9
          by_cases hM0 : EM = 0
          rotate_left 1
          · as_aux_lemma =>
            have hcd := HCD.out.resolve_left hM0
            clear HCD HMVD HEM
            rcases hcd with rfl | rfl | rfl | rfl
            all_goals (go_wp2; go_ret; exact ⟨by simp, HBW.out.trans (MM.out.below.mono HBW.out.size)⟩)
          subst hM0
          obtain ⟨hcz, hfz⟩ := move_step HEM.out HFW.out
          rw [HL1.out] at hcz hfz
          obtain ⟨rfl, hn1, hr1⟩ := HMVD.out rfl
          have HN1 : Hid (L1.length = n1) := Lib.hid hn1.symm
          have HCZ := Lib.hid hcz; have HFZ := Lib.hid hfz
          have HGW : Hid (Below g3.heap.size g3 h2) := Lib.hid MM.out.below
          have HG3 : Hid (∀ V, Below h2.heap.size h2 V → Below g3.heap.size g3 V) := Lib.hid (fun V hb => HGW.out.trans (hb.mono HGW.out.size))
          have HRZW : Hid (∀ V, Below h2.heap.size h2 V → RowOf 7 ENode V (fun b => b < T) Am L1 ∧ T ≤ V.heap.size) := Lib.hid (fun V hb => ⟨hr1.keep ENode.stays (Keep.below (HBD.out.trans (hb.mono HBD.out.size)) (fun b h => Nat.lt_of_lt_of_le h HLR1.out)) (fun _ h => h), Nat.le_trans HLR1.out (Nat.le_trans HBD.out.size hb.size)⟩)
          have HSW : Hid (∀ V, Below h2.heap.size h2 V → V.cell? ⟨p19, 0, none⟩ = some (.int .i64 m.next) ∧ V.cell? ⟨p19, 1, none⟩ = some (.slice Am n1 cm) ∧ V.cell? ⟨p15, 2, none⟩ = some (.int .i64 px) ∧ V.cell? ⟨p15, 3, none⟩ = some (.string r0)) := Lib.hid (fun V hb => by
            have h := (MM.out.blk 0 rfl).below hb (MM.out.blk 0 rfl).lt
            have a := h.cell 0; have b := h.cell 1
            simp at a b
            exact ⟨a, b, HP15W.out V (HG3.out V hb)⟩)
          obtain ⟨EB, hEB⟩ : ∃ z, moveE ⟨m.next, L1⟩ x px r0 (i : Int) = z := ⟨_, rfl⟩
          obtain ⟨LB, hLB⟩ : ∃ z, moveL ⟨m.next, L1⟩ x px r0 (i : Int) = z := ⟨_, rfl⟩
          have HEB := Lib.hid hEB; have HLB := Lib.hid hLB
          clear hEB hLB hcz hfz hn1
          have hfir : InR (i : Int) := by unfold InR; omega
          have HMB : Hid (∀ V, Below h2.heap.size h2 V → Calls Try.prog 47 #[.agg #[.int .i64 m.next, .slice Am n1 cm], .int .i64 x, .int .i64 px, .string r0, .int .i64 i] V fun e w' => (∃ v, e = .returned v ∧ ResOwn w' V.heap.size m.next EB LB v) ∧ Below V.heap.size V w') := Lib.hid (fun V hb => by
            have h := moveA_any Am cm ⟨m.next, L1⟩ V (fun b => b < T) (fun b hx => Nat.lt_of_lt_of_le hx (HRZW.out V hb).2) (HRZW.out V hb).1 (node_ok HCZ.out) (lens_few HCZ.out HFZ.out (by omega)) (by have := HCZ.out.1.1.2.2; show L1.length ≤ _; have h2 : L1.length ≤ 4096 := this; omega) x hxr px hpxr r0 hrs0 i hfir
            rw [HEB.out, HLB.out, show (⟨m.next, L1⟩ : AModel).nodes.length = n1 from HN1.out] at h
            exact h)
          have HMB0 : Hid (px = 0 → ∀ V, Below h2.heap.size h2 V → Calls Try.prog 47 #[.agg #[.int .i64 m.next, .slice Am n1 cm], .int .i64 x, .int .i64 0, .string ⟨#[]⟩, .int .i64 0] V fun e w' => (∃ v, e = .returned v ∧ ResOwn w' V.heap.size m.next 0 m.nodes v) ∧ Below V.heap.size V w') := Lib.hid (fun h0 V hb => by
            have h := moveA_any Am cm ⟨m.next, L1⟩ V (fun b => b < T) (fun b hx => Nat.lt_of_lt_of_le hx (HRZW.out V hb).2) (HRZW.out V hb).1 (node_ok HCZ.out) (lens_few HCZ.out HFZ.out (by omega)) (by have := HCZ.out.1.1.2.2; show L1.length ≤ _; have h2 : L1.length ≤ 4096 := this; omega) x hxr 0 (by unfold InR; omega) ⟨#[]⟩ (by decide) 0 (by unfold InR; omega)
            obtain ⟨k1, k2⟩ := back_root HCM.out HZN.out (t := y) (role := ro) (at' := pl) (by rw [HZI.out]; exact HEM.out) (by rw [HPX.out]; exact h0)
            rw [HZI.out, HL1.out] at k1 k2
            rw [k1, k2, show (⟨m.next, L1⟩ : AModel).nodes.length = n1 from HN1.out] at h
            exact h)
          have HBK : Hid (px ≠ 0 → EB = 0 ∧ CheckM ⟨m.next, LB⟩ ∧ kidR ⟨m.next, LB⟩ r0 px = KW ∧ sortL LB = sortL m.nodes) := Lib.hid (fun h0 => by
            have hp9 : zn.parent ≠ 0 := by rw [HPX.out]; exact h0
            have hmem : x ∈ KW := by
              have h := kid_there HCM.out HZN.out hp9
              rw [HZI.out, HR9.out, HPX.out, HKW.out] at h
              exact h
            obtain ⟨hf1, hf2⟩ := first_at hmem
            have hf3 : ∃ h : i < (kidR m zn.role zn.parent).length, (kidR m zn.role zn.parent)[i] = zn.id := by
              rw [HR9.out, HPX.out, HKW.out, HZI.out, ← HFI.out]
              exact ⟨hf1, hf2⟩
            obtain ⟨hf4, hf5⟩ := hf3
            have key := back_all HCM.out HZN.out (t := y) (role := ro) (at' := pl) (by rw [HZI.out]; exact HEM.out) hp9 hf4 hf5
            rw [HZI.out, HPX.out, HR9.out, HL1.out, HEB.out, HLB.out, HKW.out] at key
            exact key)
          have htm : (i : Int).tmod ((kw : Int) + 1) = i := Int.tmod_eq_of_lt (by omega) (by omega)
          have hk1 : ¬ ((kw : Int) + 1 = 0) := by omega
          have hwk : IntKind.i64.wrap ((kw : Int) + 1) = kw + 1 := IntWalk.i64_in _ ⟨by omega, by omega⟩
          have hwr : IntKind.i64.wrap (i : Int) = i := IntWalk.i64_in _ ⟨by omega, by omega⟩
          clear hr1 HMVD HFI
          clear MM
          have MM : Hid (Mem h2 h2 []) := Lib.hid (Mem.start h2)
          go_upto_region 25 with fail
          go_cut [21, 22] (fun sa sb wx => ∃ (nb : Nat) (nx2 : Int) (A2 : Option Addr) (n2 c2 : Nat), sa = .pointer (some ⟨nb, 0, none⟩) ∧ sb = .int .i64 EB ∧ Mem h2 wx [.blk nb 24 #[.int .i64 nx2, .slice A2 n2 c2]] ∧ (EB = 0 → nx2 = m.next ∧ n2 = LB.length ∧ RowOf 7 ENode wx (fun b => b < wx.heap.size ∧ b ≠ nb) A2 LB))
          case first =>
            obtain ⟨u, hu⟩ : ∃ z9 : World, h2.drew = z9 := ⟨_, rfl⟩
            have MM2 : Hid (Mem h2 u ([])) := Lib.hid (by rw [← hu]; exact MM.out.drew)
            clear MM
            have MM := MM2
            clear MM2
            refine wp_region_Y (S := (fun w' : World => w'.cell? ⟨p19, 0, none⟩ = some (.int .i64 m.next) ∧ w'.cell? ⟨p19, 1, none⟩ = some (.slice Am n1 cm) ∧ w'.cell? ⟨p15, 2, none⟩ = some (.int .i64 px) ∧ w'.cell? ⟨p15, 3, none⟩ = some (.string r0))) 17 (by kernel_rfl) (by rw [hu]; exact HSW.out _ MM.out.below) (fun hHeld => ?_)
            rw [hu] at hHeld ⊢
            clear hu
            refine wpAnyY_take (i := 0) (v := ?_) rfl (by kernel_rfl) (by kernel_rfl) (by kernel_rfl) (by kernel_rfl) (fun _ _ _ h => h) (Or.inl ⟨by rfl, ?_⟩) (by assumption) ?_
            rotate_left 1
            · (intro w' hSw; obtain ⟨s0, s1, s2, s3⟩ := hSw; go_simp); try with_reducible rfl
            try simp only [Act.put, List.setIfInBounds_toArray, List.set_cons_zero, List.set_cons_succ, Nat.zero_add]
            refine wpAnyY_take (i := 1) (v := ?_) rfl (by kernel_rfl) (by kernel_rfl) (by kernel_rfl) (by kernel_rfl) (fun _ _ _ h => h) (Or.inl ⟨by rfl, ?_⟩) (by assumption) ?_
            rotate_left 1
            · (intro w' hSw; obtain ⟨s0, s1, s2, s3⟩ := hSw; go_simp); try with_reducible rfl
            try simp only [Act.put, List.setIfInBounds_toArray, List.set_cons_zero, List.set_cons_succ, Nat.zero_add]
            refine wpAnyY_take (i := 2) (v := ?_) rfl (by kernel_rfl) (by kernel_rfl) (by kernel_rfl) (by kernel_rfl) (fun _ _ _ h => h) (Or.inl ⟨by rfl, ?_⟩) (by assumption) ?_
            rotate_left 1
            · (intro w' hSw; obtain ⟨s0, s1, s2, s3⟩ := hSw; go_simp); try with_reducible rfl
            try simp only [Act.put, List.setIfInBounds_toArray, List.set_cons_zero, List.set_cons_succ, Nat.zero_add]
            refine wpAnyY_take (i := 3) (v := ?_) rfl (by kernel_rfl) (by kernel_rfl) (by kernel_rfl) (by kernel_rfl) (fun _ _ _ h => h) (Or.inl ⟨by rfl, ?_⟩) (by assumption) ?_
            rotate_left 1
            · (intro w' hSw; obtain ⟨s0, s1, s2, s3⟩ := hSw; go_simp); try with_reducible rfl
            try simp only [Act.put, List.setIfInBounds_toArray, List.set_cons_zero, List.set_cons_succ, Nat.zero_add]
            refine wpAnyY_take (i := 4) (v := ?_) rfl (by kernel_rfl) (by kernel_rfl) (by kernel_rfl) (by kernel_rfl) (fun _ _ _ h => h) (Or.inl ⟨by rfl, ?_⟩) (by assumption) ?_
            rotate_left 1
            · (intro w' hSw; obtain ⟨s0, s1, s2, s3⟩ := hSw; go_simp); try with_reducible rfl
            try simp only [Act.put, List.setIfInBounds_toArray, List.set_cons_zero, List.set_cons_succ, Nat.zero_add]
            refine wpAnyY_take (i := 5) (v := ?_) rfl (by kernel_rfl) (by kernel_rfl) (by kernel_rfl) (by kernel_rfl) (fun _ _ _ h => h) (Or.inl ⟨by rfl, ?_⟩) (by assumption) ?_
            rotate_left 1
            · (intro w' hSw; obtain ⟨s0, s1, s2, s3⟩ := hSw; go_simp); try with_reducible rfl
            try simp only [Act.put, List.setIfInBounds_toArray, List.set_cons_zero, List.set_cons_succ, Nat.zero_add]
            refine wpAnyY_take (i := 6) (v := ?_) rfl (by kernel_rfl) (by kernel_rfl) (by kernel_rfl) (by kernel_rfl) (fun _ _ _ h => h) (Or.inl ⟨by rfl, ?_⟩) (by assumption) ?_
            rotate_left 1
            · (intro w' hSw; obtain ⟨s0, s1, s2, s3⟩ := hSw; go_simp); try with_reducible rfl
            try simp only [Act.put, List.setIfInBounds_toArray, List.set_cons_zero, List.set_cons_succ, Nat.zero_add]
            refine wpAnyY_take (i := 7) (v := ?_) rfl (by kernel_rfl) (by kernel_rfl) (by kernel_rfl) (by kernel_rfl) (fun _ _ _ h => h) (Or.inl ⟨by rfl, ?_⟩) (by assumption) ?_
            rotate_left 1
            · (intro w' hSw; obtain ⟨s0, s1, s2, s3⟩ := hSw; go_simp); try with_reducible rfl
            try simp only [Act.put, List.setIfInBounds_toArray, List.set_cons_zero, List.set_cons_succ, Nat.zero_add]
            refine wpAnyY_take (i := 8) (v := ?_) rfl (by kernel_rfl) (by kernel_rfl) (by kernel_rfl) (by kernel_rfl) (fun _ _ _ h => h) (Or.inl ⟨by rfl, ?_⟩) (by assumption) ?_
            rotate_left 1
            · (intro w' hSw; obtain ⟨s0, s1, s2, s3⟩ := hSw; go_simp); try with_reducible rfl
            try simp only [Act.put, List.setIfInBounds_toArray, List.set_cons_zero, List.set_cons_succ, Nat.zero_add]
            refine wpAnyY_take (i := 9) (v := ?_) rfl (by kernel_rfl) (by kernel_rfl) (by kernel_rfl) (by kernel_rfl) (fun _ _ _ h => h) (Or.inl ⟨by rfl, ?_⟩) (by assumption) ?_
            rotate_left 1
            · (intro w' hSw; obtain ⟨s0, s1, s2, s3⟩ := hSw; go_simp); try with_reducible rfl
            try simp only [Act.put, List.setIfInBounds_toArray, List.set_cons_zero, List.set_cons_succ, Nat.zero_add]
            refine wpAnyY_take (i := 10) (v := ?_) rfl (by kernel_rfl) (by kernel_rfl) (by kernel_rfl) (by kernel_rfl) (fun _ _ _ h => h) (Or.inl ⟨by rfl, ?_⟩) (by assumption) ?_
            rotate_left 1
            · (intro w' hSw; obtain ⟨s0, s1, s2, s3⟩ := hSw; go_simp); try with_reducible rfl
            try simp only [Act.put, List.setIfInBounds_toArray, List.set_cons_zero, List.set_cons_succ, Nat.zero_add]
            refine wpAnyY_two (i := 11) (j := 15) rfl rfl (by kernel_rfl) (fun K hK => ?_) (fun K hK => ?_)
            · go_simp
              refine (HMB.out _ MM.out.below).mono ?_
              rintro _ y1 ⟨⟨v, rfl, hres⟩, hb⟩
              obtain ⟨nx2, A2, n2, c2, rfl, hmb⟩ := moved_as2 hres
              have HRR : Hid (EB = 0 → nx2 = m.next ∧ n2 = LB.length ∧ RowOf 7 ENode y1 (fun b => b < y1.heap.size) A2 LB) := Lib.hid (fun h0 => ⟨(hmb h0).1, (hmb h0).2.1, (hmb h0).2.2.keep ENode.stays (Keep.refl _ _) (fun b h => h.2)⟩)
              have MM2 : Hid (Mem h2 y1 ([])) := Lib.hid (MM.out.call hb)
              clear MM
              have MM := MM2
              clear MM2
              clear hb hmb hres
              go_simp
              have hHeldy1 := HSW.out _ MM.out.below
              refine hK.out _ _ (fun _ => HSW.out _ MM.out.below) ?_
              clear hK K
              try simp only [Act.put, List.setIfInBounds_toArray, List.set_cons_zero, List.set_cons_succ, Nat.zero_add]
              refine wpAnyY_take (i := 12) (v := ?_) rfl (by kernel_rfl) (by kernel_rfl) (by kernel_rfl) (by kernel_rfl) (fun _ _ _ h => h) (Or.inl ⟨by rfl, ?_⟩) (by assumption) ?_
              rotate_left 1
              · (intro w' hSw; obtain ⟨s0, s1, s2, s3⟩ := hSw; go_simp); try with_reducible rfl
              try simp only [Act.put, List.setIfInBounds_toArray, List.set_cons_zero, List.set_cons_succ, Nat.zero_add]
              refine wpAnyY_take (i := 13) (v := ?_) rfl (by kernel_rfl) (by kernel_rfl) (by kernel_rfl) (by kernel_rfl) (fun _ _ _ h => h) (Or.inl ⟨by rfl, ?_⟩) (by assumption) ?_
              rotate_left 1
              · (intro w' hSw; obtain ⟨s0, s1, s2, s3⟩ := hSw; go_simp); try with_reducible rfl
              try simp only [Act.put, List.setIfInBounds_toArray, List.set_cons_zero, List.set_cons_succ, Nat.zero_add]
              refine wpAnyY_take (i := 14) (v := ?_) rfl (by kernel_rfl) (by kernel_rfl) (by kernel_rfl) (by kernel_rfl) (fun _ _ _ h => h) (Or.inl ⟨by rfl, ?_⟩) (by assumption) ?_
              rotate_left 1
              · (intro w' hSw; obtain ⟨s0, s1, s2, s3⟩ := hSw; go_simp); try with_reducible rfl
              try simp only [Act.put, List.setIfInBounds_toArray, List.set_cons_zero, List.set_cons_succ, Nat.zero_add]
              refine wpAnyY_one (i := 15) rfl (by kernel_rfl) (fun K hK => ?_)
              go_simp
              obtain ⟨nb, hnb⟩ : ∃ z, y1.heap.size = z := ⟨_, rfl⟩
              obtain ⟨y2, hu⟩ : ∃ z9 : World, y1.alloc (.cells #[.int .i64 0, .slice none 0 0] 24) = z9 := ⟨_, rfl⟩
              have hb : Below y1.heap.size y1 y2 := by rw [← hu]; exact (Below.refl _ _).alloc (Nat.le_refl _) _
              have HRR2 : Hid (EB = 0 → nx2 = m.next ∧ n2 = LB.length ∧ RowOf 7 ENode y2 (fun b => b < y2.heap.size ∧ b ≠ nb) A2 LB) := Lib.hid (fun h0 => ⟨(HRR.out h0).1, (HRR.out h0).2.1, (HRR.out h0).2.2.keep ENode.stays (Keep.below hb (fun _ h => h)) (fun b h => ⟨Nat.lt_of_lt_of_le h hb.size, by omega⟩)⟩)
              clear HRR
              have HRR := HRR2
              clear HRR2
              have MM2 : Hid (Mem h2 y2 ([.blk nb 24 #[.int .i64 0, .slice none 0 0]])) := Lib.hid (by rw [← hu]; exact MM.out.allocG hnb _ _)
              clear MM
              have MM := MM2
              clear MM2
              rw [hu, hnb]
              clear hu hnb hb
              have hHeldy2 := HSW.out _ MM.out.below
              refine hK.out _ _ (fun _ => HSW.out _ MM.out.below) ?_
              clear hK K
              try simp only [Act.put, List.setIfInBounds_toArray, List.set_cons_zero, List.set_cons_succ, Nat.zero_add]
              refine wpAnyY_one (i := 16) rfl (by kernel_rfl) (fun K hK => ?_)
              have zc0 := (MM.out.blk 0 rfl).cell 0
              have zc1 := (MM.out.blk 0 rfl).cell 1
              have zf0 := (MM.out.blk 0 rfl).frozen 0
              have zf1 := (MM.out.blk 0 rfl).frozen 1
              have zlt := (MM.out.blk 0 rfl).lt
              simp at zc0 zc1
              have MM2 : Hid (Mem h2 ((y2.setCell ⟨nb, 0, none⟩ (.int .i64 nx2)).setCell ⟨nb, 1, none⟩ (.slice A2 n2 c2)) ([.blk nb 24 #[.int .i64 nx2, .slice A2 n2 c2]])) := Lib.hid ((MM.out.set_ 0 rfl 0 (.int .i64 nx2)).set_ 0 rfl 1 (.slice A2 n2 c2))
              have HSZ7 : Hid (((y2.setCell ⟨nb, 0, none⟩ (.int .i64 nx2)).setCell ⟨nb, 1, none⟩ (.slice A2 n2 c2)).heap.size = y2.heap.size) := Lib.hid (by simp)
              have HRR2 : Hid (EB = 0 → nx2 = m.next ∧ n2 = LB.length ∧ RowOf 7 ENode ((y2.setCell ⟨nb, 0, none⟩ (.int .i64 nx2)).setCell ⟨nb, 1, none⟩ (.slice A2 n2 c2)) (fun b => b < ((y2.setCell ⟨nb, 0, none⟩ (.int .i64 nx2)).setCell ⟨nb, 1, none⟩ (.slice A2 n2 c2)).heap.size ∧ b ≠ nb) A2 LB) := Lib.hid (fun h0 => ⟨(HRR.out h0).1, (HRR.out h0).2.1, ((HRR.out h0).2.2.keep ENode.stays (keep_set _ ⟨nb, 0, none⟩ _ (fun b hb => hb.2)) (fun _ h => h)).keep ENode.stays (keep_set _ ⟨nb, 1, none⟩ _ (fun b hb => hb.2)) (fun b h => ⟨by rw [HSZ7.out]; exact h.1, h.2⟩)⟩)
              go_simp
              refine hK.out _ _ (fun _ => HSW.out _ MM2.out.below) ?_
              clear zf0 zf1 zc0 zc1 zlt
              clear MM HRR
              have MM := MM2
              have HRR := HRR2
              clear MM2 HRR2
              clear hK K
              try simp only [Act.put, List.setIfInBounds_toArray, List.set_cons_zero, List.set_cons_succ, Nat.zero_add]
              refine wpAnyY_one0 (i := 17) rfl (by kernel_rfl) (by kernel_rfl) (fun K hK => ?_)
              go_simp
              refine hK.out _ _ ?_
              clear hK K
              try simp only [Act.put, List.setIfInBounds_toArray, List.set_cons_zero, List.set_cons_succ, Nat.zero_add]
              refine wpAnyY_done (by kernel_rfl) ?_ _
              go_wp2_with fail
              go_meet
              case rel => exact ⟨nb, nx2, A2, n2, c2, rfl, rfl, MM.out, HRR.out⟩
            · go_simp
              obtain ⟨nb, hnb⟩ : ∃ z, u.heap.size = z := ⟨_, rfl⟩
              obtain ⟨y5, hu⟩ : ∃ z9 : World, u.alloc (.cells #[.int .i64 0, .slice none 0 0] 24) = z9 := ⟨_, rfl⟩
              have hb : Below u.heap.size u y5 := by rw [← hu]; exact (Below.refl _ _).alloc (Nat.le_refl _) _
              have MM2 : Hid (Mem h2 y5 ([.blk nb 24 #[.int .i64 0, .slice none 0 0]])) := Lib.hid (by rw [← hu]; exact MM.out.allocG hnb _ _)
              clear MM
              have MM := MM2
              clear MM2
              rw [hu, hnb]
              clear hu hnb hb
              have hHeldy5 := HSW.out _ MM.out.below
              refine hK.out _ _ (fun _ => HSW.out _ MM.out.below) ?_
              clear hK K
              try simp only [Act.put, List.setIfInBounds_toArray, List.set_cons_zero, List.set_cons_succ, Nat.zero_add]
              refine wpAnyY_one (i := 11) rfl (by kernel_rfl) (fun K hK => ?_)
              go_simp
              refine (HMB.out _ MM.out.below).mono ?_
              rintro _ y6 ⟨⟨v, rfl, hres⟩, hb⟩
              obtain ⟨nx2, A2, n2, c2, rfl, hmb⟩ := moved_as2 hres
              have HRR : Hid (EB = 0 → nx2 = m.next ∧ n2 = LB.length ∧ RowOf 7 ENode y6 (fun b => b < y6.heap.size ∧ b ≠ nb) A2 LB) := Lib.hid (fun h0 => ⟨(hmb h0).1, (hmb h0).2.1, (hmb h0).2.2.keep ENode.stays (Keep.refl _ _) (fun b h => ⟨h.2, by have := (MM.out.blk 0 rfl).lt; have := h.1; omega⟩)⟩)
              have MM2 : Hid (Mem h2 y6 ([.blk nb 24 #[.int .i64 0, .slice none 0 0]])) := Lib.hid (MM.out.call hb)
              clear MM
              have MM := MM2
              clear MM2
              clear hb hmb hres
              go_simp
              have hHeldy6 := HSW.out _ MM.out.below
              refine hK.out _ _ (fun _ => HSW.out _ MM.out.below) ?_
              clear hK K
              try simp only [Act.put, List.setIfInBounds_toArray, List.set_cons_zero, List.set_cons_succ, Nat.zero_add]
              refine wpAnyY_take (i := 12) (v := ?_) rfl (by kernel_rfl) (by kernel_rfl) (by kernel_rfl) (by kernel_rfl) (fun _ _ _ h => h) (Or.inl ⟨by rfl, ?_⟩) (by assumption) ?_
              rotate_left 1
              · (intro w' hSw; obtain ⟨s0, s1, s2, s3⟩ := hSw; go_simp); try with_reducible rfl
              try simp only [Act.put, List.setIfInBounds_toArray, List.set_cons_zero, List.set_cons_succ, Nat.zero_add]
              refine wpAnyY_take (i := 13) (v := ?_) rfl (by kernel_rfl) (by kernel_rfl) (by kernel_rfl) (by kernel_rfl) (fun _ _ _ h => h) (Or.inl ⟨by rfl, ?_⟩) (by assumption) ?_
              rotate_left 1
              · (intro w' hSw; obtain ⟨s0, s1, s2, s3⟩ := hSw; go_simp); try with_reducible rfl
              try simp only [Act.put, List.setIfInBounds_toArray, List.set_cons_zero, List.set_cons_succ, Nat.zero_add]
              refine wpAnyY_take (i := 14) (v := ?_) rfl (by kernel_rfl) (by kernel_rfl) (by kernel_rfl) (by kernel_rfl) (fun _ _ _ h => h) (Or.inl ⟨by rfl, ?_⟩) (by assumption) ?_
              rotate_left 1
              · (intro w' hSw; obtain ⟨s0, s1, s2, s3⟩ := hSw; go_simp); try with_reducible rfl
              try simp only [Act.put, List.setIfInBounds_toArray, List.set_cons_zero, List.set_cons_succ, Nat.zero_add]
              refine wpAnyY_one (i := 16) rfl (by kernel_rfl) (fun K hK => ?_)
              have zc0 := (MM.out.blk 0 rfl).cell 0
              have zc1 := (MM.out.blk 0 rfl).cell 1
              have zf0 := (MM.out.blk 0 rfl).frozen 0
              have zf1 := (MM.out.blk 0 rfl).frozen 1
              have zlt := (MM.out.blk 0 rfl).lt
              simp at zc0 zc1
              have MM2 : Hid (Mem h2 ((y6.setCell ⟨nb, 0, none⟩ (.int .i64 nx2)).setCell ⟨nb, 1, none⟩ (.slice A2 n2 c2)) ([.blk nb 24 #[.int .i64 nx2, .slice A2 n2 c2]])) := Lib.hid ((MM.out.set_ 0 rfl 0 (.int .i64 nx2)).set_ 0 rfl 1 (.slice A2 n2 c2))
              have HSZ7 : Hid (((y6.setCell ⟨nb, 0, none⟩ (.int .i64 nx2)).setCell ⟨nb, 1, none⟩ (.slice A2 n2 c2)).heap.size = y6.heap.size) := Lib.hid (by simp)
              have HRR2 : Hid (EB = 0 → nx2 = m.next ∧ n2 = LB.length ∧ RowOf 7 ENode ((y6.setCell ⟨nb, 0, none⟩ (.int .i64 nx2)).setCell ⟨nb, 1, none⟩ (.slice A2 n2 c2)) (fun b => b < ((y6.setCell ⟨nb, 0, none⟩ (.int .i64 nx2)).setCell ⟨nb, 1, none⟩ (.slice A2 n2 c2)).heap.size ∧ b ≠ nb) A2 LB) := Lib.hid (fun h0 => ⟨(HRR.out h0).1, (HRR.out h0).2.1, ((HRR.out h0).2.2.keep ENode.stays (keep_set _ ⟨nb, 0, none⟩ _ (fun b hb => hb.2)) (fun _ h => h)).keep ENode.stays (keep_set _ ⟨nb, 1, none⟩ _ (fun b hb => hb.2)) (fun b h => ⟨by rw [HSZ7.out]; exact h.1, h.2⟩)⟩)
              go_simp
              refine hK.out _ _ (fun _ => HSW.out _ MM2.out.below) ?_
              clear zf0 zf1 zc0 zc1 zlt
              clear MM HRR
              have MM := MM2
              have HRR := HRR2
              clear MM2 HRR2
              clear hK K
              try simp only [Act.put, List.setIfInBounds_toArray, List.set_cons_zero, List.set_cons_succ, Nat.zero_add]
              refine wpAnyY_one0 (i := 17) rfl (by kernel_rfl) (by kernel_rfl) (fun K hK => ?_)
              go_simp
              refine hK.out _ _ ?_
              clear hK K
              try simp only [Act.put, List.setIfInBounds_toArray, List.set_cons_zero, List.set_cons_succ, Nat.zero_add]
              refine wpAnyY_done (by kernel_rfl) ?_ _
              go_wp2_with fail
              go_meet
              case rel => exact ⟨nb, nx2, A2, n2, c2, rfl, rfl, MM.out, HRR.out⟩
          case rest =>
            obtain ⟨nb, nx2, A2, n2, c2, rfl, rfl, hm, hrb⟩ := hcut
            clear MM
            obtain ⟨k1, rfl⟩ : ∃ v : World, v = wc := ⟨_, rfl⟩
            have MM := Lib.hid hm; have HRB := Lib.hid hrb
            have HK9 : Hid (KW.length ≤ 9223372036854775807) := Lib.hid (Nat.le_trans (Nat.le_of_eq HKWL.out) (Nat.le_trans hkw (by decide)))
            clear hm hrb HMB htm hk1 hwk hwr hfir hi0 hfl hkw
            have hp15 := (HSW.out _ MM.out.below).2.2.1
            obtain ⟨TXT, hTXT⟩ : ∃ z : ByteArray, ⟨(sortL m.nodes).toArray⟩ = z := ⟨_, rfl⟩
            have HTXT := Lib.hid hTXT
            clear hTXT
            by_cases hp0 : px = 0
            · subst hp0
              have HMB1 := Lib.hid (HMB0.out rfl)
              clear HMB0 HBK
              have hz19 := HSW.out _ MM.out.below
              obtain ⟨hza, hzb, _, _⟩ := hz19
              have bc0 := (MM.out.blk 0 rfl).cell 0
              have bc1 := (MM.out.blk 0 rfl).cell 1
              have bf0 := (MM.out.blk 0 rfl).frozen 0
              have bf1 := (MM.out.blk 0 rfl).frozen 1
              have blt := (MM.out.blk 0 rfl).lt
              simp at bc0 bc1
              go_upto_region 27 with fail
              go_wp2_with fail
              refine (HMB1.out _ MM.out.below).mono ?_
              rintro _ k2 ⟨⟨v, rfl, hres⟩, hb⟩
              obtain ⟨nx3, A3, n3, c3, rfl, hmb⟩ := moved_as2 hres
              obtain ⟨rfl, hn3, hr3⟩ := hmb rfl
              have HR3 : Hid (RowOf 7 ENode k2 (fun b => b < k2.heap.size ∧ b ≠ nb) A3 m.nodes) := Lib.hid (hr3.keep ENode.stays (Keep.refl _ _) (fun b h => ⟨h.2, by have := (MM.out.blk 0 rfl).lt; have := h.1; omega⟩))
              have HN3 := Lib.hid hn3
              clear hres hmb hn3 hr3 HMB1
              clear bf0 bf1 bc0 bc1 blt
              clear hp15 hza hzb
              have MM2 : Hid (Mem h2 k2 ([.blk nb 24 #[.int .i64 nx2, .slice A2 n2 c2]])) := Lib.hid (MM.out.call hb)
              clear MM
              have MM := MM2
              clear MM2
              clear hb
              have bc0 := (MM.out.blk 0 rfl).cell 0
              have bc1 := (MM.out.blk 0 rfl).cell 1
              have bf0 := (MM.out.blk 0 rfl).frozen 0
              have bf1 := (MM.out.blk 0 rfl).frozen 1
              have blt := (MM.out.blk 0 rfl).lt
              simp at bc0 bc1
              go_upto_region 28 with fail
              clear bf0 bf1 bc0 bc1 blt
              obtain ⟨k3, hu⟩ : ∃ z9 : World, ((k2.setCell ⟨nb, 0, none⟩ (.int .i64 m.next)).setCell ⟨nb, 1, none⟩ (.slice A3 n3 c3)) = z9 := ⟨_, rfl⟩
              have hsz : k3.heap.size = k2.heap.size := by rw [← hu]; simp
              have HRB2 : Hid (RowOf 7 ENode k3 (fun b => b < k3.heap.size) A3 m.nodes) := Lib.hid (by
                rw [hsz, ← hu]
                exact (HR3.out.keep ENode.stays (keep_set _ ⟨nb, 0, none⟩ _ (fun b hb => hb.2)) (fun _ h => h)).keep ENode.stays (keep_set _ ⟨nb, 1, none⟩ _ (fun b hb => hb.2)) (fun b h => h.1))
              have MM2 : Hid (Mem h2 k3 ([.blk nb 24 #[.int .i64 m.next, .slice A3 n3 c3]])) := Lib.hid (by rw [← hu]; exact ((MM.out.set_ 0 rfl 0 (.int .i64 m.next)).set_ 0 rfl 1 (.slice A3 n3 c3)))
              clear MM
              have MM := MM2
              clear MM2
              (try rw [hu])
              clear hu hsz HR3 HRB
              have HRB := HRB2
              clear HRB2
              have hn2 := HN3.out
              have HCB : Hid (CheckM ⟨m.next, m.nodes⟩) := Lib.hid HCM.out
              have HKB : Hid (kidR ⟨m.next, m.nodes⟩ r0 0 = KW) := Lib.hid (HKW.out)
              have HSB : Hid (sortL m.nodes = sortL m.nodes) := Lib.hid rfl
              have HLB2 : Hid (n3 = (m.nodes).length) := Lib.hid hn2
              clear hn2
              have HKD3 : Hid (∀ V, Below k3.heap.size k3 V → Calls Try.prog 29 #[.agg #[.int .i64 m.next, .slice A3 n3 c3], .int .i64 0, .string r0] V fun e w2 => ∃ v, e = .returned v ∧ OwnI w2 V.heap.size v KW ∧ Below V.heap.size V w2) := Lib.hid (fun V hb => by
                have h := kidsA_any A3 c3 ⟨m.next, m.nodes⟩ V (fun b => b < k3.heap.size) (fun b hx => Nat.lt_of_lt_of_le hx hb.size) (HRB.out.keep ENode.stays (Keep.below hb (fun _ h => h)) (fun _ h => h)) (node_ok HCB.out) (by have h2 : (m.nodes).length ≤ 4096 := HCB.out.1.1.2.2; show (m.nodes).length ≤ _; omega) 0 hpxr r0
                rw [HKB.out, show (⟨m.next, m.nodes⟩ : AModel).nodes.length = n3 from HLB2.out.symm] at h
                exact h)
              have HSO1 : Hid (∀ V, Below k3.heap.size k3 V → Calls Try.prog 59 #[.agg #[.int .i64 m.next, .slice A3 n3 c3]] V fun e w' => e = .returned (.string TXT) ∧ Below V.heap.size V w') := Lib.hid (fun V hb => by
                have h := sorted_any A3 c3 ⟨m.next, m.nodes⟩ V (fun b => b < k3.heap.size) (fun b hx => Nat.lt_of_lt_of_le hx hb.size) (HRB.out.keep ENode.stays (Keep.below hb (fun _ h => h)) (fun _ h => h)) HCB.out
                rw [show (⟨m.next, m.nodes⟩ : AModel).nodes.length = n3 from HLB2.out.symm, show sortL (⟨m.next, m.nodes⟩ : AModel).nodes = sortL m.nodes from HSB.out, HTXT.out] at h
                exact h)
              have HGK : Hid (∀ V, Below k3.heap.size k3 V → Below g3.heap.size g3 V) := Lib.hid (fun V hb => HG3.out V (MM.out.below.trans (hb.mono MM.out.below.size)))
              have HSO2 : Hid (∀ V, Below k3.heap.size k3 V → Calls Try.prog 59 #[.agg #[.int .i64 m.next, .slice A n c]] V fun e w' => e = .returned (.string TXT) ∧ Below V.heap.size V w') := Lib.hid (fun V hb => by
                have h := sorted_any A c m V (fun b => b < B1) (HF1.out _ (HRMW.out V (HGK.out V hb)).2) (HRMW.out V (HGK.out V hb)).1 HCM.out
                rw [HN.out, HTXT.out] at h
                exact h)
              have HSK : Hid (∀ V, Below k3.heap.size k3 V → V.cell? ⟨nb, 0, none⟩ = some (.int .i64 m.next) ∧ V.cell? ⟨nb, 1, none⟩ = some (.slice A3 n3 c3) ∧ V.cell? ⟨p15, 2, none⟩ = some (.int .i64 0) ∧ V.cell? ⟨p15, 3, none⟩ = some (.string r0) ∧ V.cell? ⟨p5, 0, none⟩ = some (.int .i64 m.next) ∧ V.cell? ⟨p5, 1, none⟩ = some (.slice A n c)) := Lib.hid (fun V hb => by
                have h := (MM.out.blk 0 rfl).below hb (MM.out.blk 0 rfl).lt
                have a := h.cell 0; have b := h.cell 1
                simp at a b
                exact ⟨a, b, (HP15W.out V (HGK.out V hb)).1, (HP15W.out V (HGK.out V hb)).2, HP5W.out V (HGK.out V hb)⟩)
              have HEND : Hid (∀ V, Below k3.heap.size k3 V → Below w.heap.size w V) := Lib.hid (fun V hb => HBW.out.trans ((HGK.out V hb).mono HBW.out.size))
              clear MM HRB HRMW HP5W HP15W
              go_upto_region 30 with fail
              obtain ⟨u, hu⟩ : ∃ z9 : World, k3.drew = z9 := ⟨_, rfl⟩
              have HBZ : Hid (Below k3.heap.size k3 u) := Lib.hid (by rw [← hu]; exact (Below.refl _ _).drew)
              refine wp_region_Y (S := (fun w' : World => w'.cell? ⟨nb, 0, none⟩ = some (.int .i64 m.next) ∧ w'.cell? ⟨nb, 1, none⟩ = some (.slice A3 n3 c3) ∧ w'.cell? ⟨p15, 2, none⟩ = some (.int .i64 0) ∧ w'.cell? ⟨p15, 3, none⟩ = some (.string r0) ∧ w'.cell? ⟨p5, 0, none⟩ = some (.int .i64 m.next) ∧ w'.cell? ⟨p5, 1, none⟩ = some (.slice A n c))) 15 (by kernel_rfl) (by rw [hu]; exact HSK.out _ HBZ.out) (fun hHeld => ?_)
              rw [hu] at hHeld ⊢
              clear hu
              refine wpAnyY_take (i := 0) (v := ?_) rfl (by kernel_rfl) (by kernel_rfl) (by kernel_rfl) (by kernel_rfl) (fun _ _ _ h => h) (Or.inl ⟨by rfl, ?_⟩) (by assumption) ?_
              rotate_left 1
              · (intro w' hSw; obtain ⟨s0, s1, s2, s3, s4, s5⟩ := hSw; go_simp); try with_reducible rfl
              try simp only [Act.put, List.setIfInBounds_toArray, List.set_cons_zero, List.set_cons_succ, Nat.zero_add]
              refine wpAnyY_take (i := 1) (v := ?_) rfl (by kernel_rfl) (by kernel_rfl) (by kernel_rfl) (by kernel_rfl) (fun _ _ _ h => h) (Or.inl ⟨by rfl, ?_⟩) (by assumption) ?_
              rotate_left 1
              · (intro w' hSw; obtain ⟨s0, s1, s2, s3, s4, s5⟩ := hSw; go_simp); try with_reducible rfl
              try simp only [Act.put, List.setIfInBounds_toArray, List.set_cons_zero, List.set_cons_succ, Nat.zero_add]
              refine wpAnyY_take (i := 2) (v := ?_) rfl (by kernel_rfl) (by kernel_rfl) (by kernel_rfl) (by kernel_rfl) (fun _ _ _ h => h) (Or.inl ⟨by rfl, ?_⟩) (by assumption) ?_
              rotate_left 1
              · (intro w' hSw; obtain ⟨s0, s1, s2, s3, s4, s5⟩ := hSw; go_simp); try with_reducible rfl
              try simp only [Act.put, List.setIfInBounds_toArray, List.set_cons_zero, List.set_cons_succ, Nat.zero_add]
              refine wpAnyY_take (i := 3) (v := ?_) rfl (by kernel_rfl) (by kernel_rfl) (by kernel_rfl) (by kernel_rfl) (fun _ _ _ h => h) (Or.inl ⟨by rfl, ?_⟩) (by assumption) ?_
              rotate_left 1
              · (intro w' hSw; obtain ⟨s0, s1, s2, s3, s4, s5⟩ := hSw; go_simp); try with_reducible rfl
              try simp only [Act.put, List.setIfInBounds_toArray, List.set_cons_zero, List.set_cons_succ, Nat.zero_add]
              refine wpAnyY_take (i := 4) (v := ?_) rfl (by kernel_rfl) (by kernel_rfl) (by kernel_rfl) (by kernel_rfl) (fun _ _ _ h => h) (Or.inl ⟨by rfl, ?_⟩) (by assumption) ?_
              rotate_left 1
              · (intro w' hSw; obtain ⟨s0, s1, s2, s3, s4, s5⟩ := hSw; go_simp); try with_reducible rfl
              try simp only [Act.put, List.setIfInBounds_toArray, List.set_cons_zero, List.set_cons_succ, Nat.zero_add]
              refine wpAnyY_take (i := 6) (v := ?_) rfl (by kernel_rfl) (by kernel_rfl) (by kernel_rfl) (by kernel_rfl) (fun _ _ _ h => h) (Or.inl ⟨by rfl, ?_⟩) (by assumption) ?_
              rotate_left 1
              · (intro w' hSw; obtain ⟨s0, s1, s2, s3, s4, s5⟩ := hSw; go_simp); try with_reducible rfl
              try simp only [Act.put, List.setIfInBounds_toArray, List.set_cons_zero, List.set_cons_succ, Nat.zero_add]
              refine wpAnyY_one (i := 5) rfl (by kernel_rfl) (fun K hK => ?_)
              go_simp
              refine (HKD3.out _ HBZ.out).mono ?_
              rintro _ v1 ⟨vk, rfl, hown, hb⟩
              have HBZ2 : Hid (Below k3.heap.size k3 v1) := Lib.hid (HBZ.out.trans (hb.mono HBZ.out.size))
              clear HBZ
              have HBZ := HBZ2
              clear HBZ2
              obtain ⟨Al, cl, rfl⟩ := hown.shape
              have HRV : Hid (RowOf 1 EInt v1 (fun b => b < v1.heap.size) Al KW) := Lib.hid (by
                obtain ⟨A', c', e, _, _, h3⟩ := hown.isRow (F := fun b => b < v1.heap.size) (fun b _ h => h)
                injection e with e1; subst e1; exact h3)
              have HRI := Lib.hid (ints_both Al Ak cl ck KW v1 (fun b => b < v1.heap.size) (fun b => b < TK) HRV.out (HRKW.out v1 (HGK.out _ HBZ.out)) HK9.out)
              rw [HKWL.out] at HRI
              clear hown HRV
              rw [HKWL.out]
              clear hb
              go_simp
              have hHeldv1 := HSK.out _ HBZ.out
              refine hK.out _ _ (fun _ => HSK.out _ HBZ.out) ?_
              clear hK K
              try simp only [Act.put, List.setIfInBounds_toArray, List.set_cons_zero, List.set_cons_succ, Nat.zero_add]
              refine wpAnyY_one (i := 7) rfl (by kernel_rfl) (fun K hK => ?_)
              go_simp
              refine (HRI.out).mono ?_
              rintro _ v2 ⟨rfl, hb⟩
              have HBZ2 : Hid (Below k3.heap.size k3 v2) := Lib.hid (HBZ.out.trans (hb.mono HBZ.out.size))
              clear HBZ
              have HBZ := HBZ2
              clear HBZ2
              clear hb
              go_simp
              have hHeldv2 := HSK.out _ HBZ.out
              refine hK.out _ _ (fun _ => HSK.out _ HBZ.out) ?_
              clear hK K
              try simp only [Act.put, List.setIfInBounds_toArray, List.set_cons_zero, List.set_cons_succ, Nat.zero_add]
              refine wpAnyY_take (i := 8) (v := ?_) rfl (by kernel_rfl) (by kernel_rfl) (by kernel_rfl) (by kernel_rfl) (fun _ _ _ h => h) (Or.inl ⟨by rfl, ?_⟩) (by assumption) ?_
              rotate_left 1
              · (intro w' hSw; obtain ⟨s0, s1, s2, s3, s4, s5⟩ := hSw; go_simp); try with_reducible rfl
              try simp only [Act.put, List.setIfInBounds_toArray, List.set_cons_zero, List.set_cons_succ, Nat.zero_add]
              refine wpAnyY_take (i := 9) (v := ?_) rfl (by kernel_rfl) (by kernel_rfl) (by kernel_rfl) (by kernel_rfl) (fun _ _ _ h => h) (Or.inl ⟨by rfl, ?_⟩) (by assumption) ?_
              rotate_left 1
              · (intro w' hSw; obtain ⟨s0, s1, s2, s3, s4, s5⟩ := hSw; go_simp); try with_reducible rfl
              try simp only [Act.put, List.setIfInBounds_toArray, List.set_cons_zero, List.set_cons_succ, Nat.zero_add]
              refine wpAnyY_take (i := 11) (v := ?_) rfl (by kernel_rfl) (by kernel_rfl) (by kernel_rfl) (by kernel_rfl) (fun _ _ _ h => h) (Or.inl ⟨by rfl, ?_⟩) (by assumption) ?_
              rotate_left 1
              · (intro w' hSw; obtain ⟨s0, s1, s2, s3, s4, s5⟩ := hSw; go_simp); try with_reducible rfl
              try simp only [Act.put, List.setIfInBounds_toArray, List.set_cons_zero, List.set_cons_succ, Nat.zero_add]
              refine wpAnyY_one (i := 10) rfl (by kernel_rfl) (fun K hK => ?_)
              go_simp
              refine (HSO1.out _ HBZ.out).mono ?_
              rintro _ v3 ⟨rfl, hb⟩
              have HBZ2 : Hid (Below k3.heap.size k3 v3) := Lib.hid (HBZ.out.trans (hb.mono HBZ.out.size))
              clear HBZ
              have HBZ := HBZ2
              clear HBZ2
              clear hb
              go_simp
              have hHeldv3 := HSK.out _ HBZ.out
              refine hK.out _ _ (fun _ => HSK.out _ HBZ.out) ?_
              clear hK K
              try simp only [Act.put, List.setIfInBounds_toArray, List.set_cons_zero, List.set_cons_succ, Nat.zero_add]
              refine wpAnyY_one (i := 12) rfl (by kernel_rfl) (fun K hK => ?_)
              go_simp
              refine (HSO2.out _ HBZ.out).mono ?_
              rintro _ v4 ⟨rfl, hb⟩
              have HBZ2 : Hid (Below k3.heap.size k3 v4) := Lib.hid (HBZ.out.trans (hb.mono HBZ.out.size))
              clear HBZ
              have HBZ := HBZ2
              clear HBZ2
              clear hb
              go_simp
              have hHeldv4 := HSK.out _ HBZ.out
              refine hK.out _ _ (fun _ => HSK.out _ HBZ.out) ?_
              clear hK K
              try simp only [Act.put, List.setIfInBounds_toArray, List.set_cons_zero, List.set_cons_succ, Nat.zero_add]
              refine wpAnyY_take (i := 13) (v := ?_) rfl (by kernel_rfl) (by kernel_rfl) (by kernel_rfl) (by kernel_rfl) (fun _ _ _ h => h) (Or.inl ⟨by rfl, ?_⟩) (by assumption) ?_
              rotate_left 1
              · (intro w' hSw; obtain ⟨s0, s1, s2, s3, s4, s5⟩ := hSw; go_simp); try with_reducible rfl
              try simp only [Act.put, List.setIfInBounds_toArray, List.set_cons_zero, List.set_cons_succ, Nat.zero_add]
              refine wpAnyY_take (i := 14) (v := ?_) rfl (by kernel_rfl) (by kernel_rfl) (by kernel_rfl) (by kernel_rfl) (fun _ _ _ h => h) (Or.inl ⟨by rfl, ?_⟩) (by assumption) ?_
              rotate_left 1
              · (intro w' hSw; obtain ⟨s0, s1, s2, s3, s4, s5⟩ := hSw; go_simp); try with_reducible rfl
              try simp only [Act.put, List.setIfInBounds_toArray, List.set_cons_zero, List.set_cons_succ, Nat.zero_add]
              refine wpAnyY_one0 (i := 15) rfl (by kernel_rfl) (by kernel_rfl) (fun K hK => ?_)
              go_simp
              refine hK.out _ _ ?_
              clear hK K
              try simp only [Act.put, List.setIfInBounds_toArray, List.set_cons_zero, List.set_cons_succ, Nat.zero_add]
              refine wpAnyY_done (by kernel_rfl) ?_ _
              go_wp2
              go_ret
              exact ⟨by simp, HEND.out _ HBZ.out⟩
            obtain ⟨rfl, hcb, hkb, hsb⟩ := HBK.out hp0
            obtain ⟨rfl, hn2, hrb⟩ := HRB.out rfl
            clear HRB
            have HRB : Hid (RowOf 7 ENode k1 (fun b => b < k1.heap.size) A2 LB) := Lib.hid (hrb.keep ENode.stays (Keep.refl _ _) (fun _ h => h.1))
            have HCB := Lib.hid hcb; have HKB := Lib.hid hkb; have HSB := Lib.hid hsb
            have e0 : (px == 0) = false := by simp; exact hp0
            clear hcb hkb hsb hrb HMB0
            go_upto_region 30 with fail
            clear hp15 e0
            have HLB2 : Hid (n2 = (LB).length) := Lib.hid hn2
            clear hn2
            have HKD3 : Hid (∀ V, Below k1.heap.size k1 V → Calls Try.prog 29 #[.agg #[.int .i64 m.next, .slice A2 n2 c2], .int .i64 px, .string r0] V fun e w2 => ∃ v, e = .returned v ∧ OwnI w2 V.heap.size v KW ∧ Below V.heap.size V w2) := Lib.hid (fun V hb => by
              have h := kidsA_any A2 c2 ⟨m.next, LB⟩ V (fun b => b < k1.heap.size) (fun b hx => Nat.lt_of_lt_of_le hx hb.size) (HRB.out.keep ENode.stays (Keep.below hb (fun _ h => h)) (fun _ h => h)) (node_ok HCB.out) (by have h2 : (LB).length ≤ 4096 := HCB.out.1.1.2.2; show (LB).length ≤ _; omega) px hpxr r0
              rw [HKB.out, show (⟨m.next, LB⟩ : AModel).nodes.length = n2 from HLB2.out.symm] at h
              exact h)
            have HSO1 : Hid (∀ V, Below k1.heap.size k1 V → Calls Try.prog 59 #[.agg #[.int .i64 m.next, .slice A2 n2 c2]] V fun e w' => e = .returned (.string TXT) ∧ Below V.heap.size V w') := Lib.hid (fun V hb => by
              have h := sorted_any A2 c2 ⟨m.next, LB⟩ V (fun b => b < k1.heap.size) (fun b hx => Nat.lt_of_lt_of_le hx hb.size) (HRB.out.keep ENode.stays (Keep.below hb (fun _ h => h)) (fun _ h => h)) HCB.out
              rw [show (⟨m.next, LB⟩ : AModel).nodes.length = n2 from HLB2.out.symm, show sortL (⟨m.next, LB⟩ : AModel).nodes = sortL m.nodes from HSB.out, HTXT.out] at h
              exact h)
            have HGK : Hid (∀ V, Below k1.heap.size k1 V → Below g3.heap.size g3 V) := Lib.hid (fun V hb => HG3.out V (MM.out.below.trans (hb.mono MM.out.below.size)))
            have HSO2 : Hid (∀ V, Below k1.heap.size k1 V → Calls Try.prog 59 #[.agg #[.int .i64 m.next, .slice A n c]] V fun e w' => e = .returned (.string TXT) ∧ Below V.heap.size V w') := Lib.hid (fun V hb => by
              have h := sorted_any A c m V (fun b => b < B1) (HF1.out _ (HRMW.out V (HGK.out V hb)).2) (HRMW.out V (HGK.out V hb)).1 HCM.out
              rw [HN.out, HTXT.out] at h
              exact h)
            have HSK : Hid (∀ V, Below k1.heap.size k1 V → V.cell? ⟨nb, 0, none⟩ = some (.int .i64 m.next) ∧ V.cell? ⟨nb, 1, none⟩ = some (.slice A2 n2 c2) ∧ V.cell? ⟨p15, 2, none⟩ = some (.int .i64 px) ∧ V.cell? ⟨p15, 3, none⟩ = some (.string r0) ∧ V.cell? ⟨p5, 0, none⟩ = some (.int .i64 m.next) ∧ V.cell? ⟨p5, 1, none⟩ = some (.slice A n c)) := Lib.hid (fun V hb => by
              have h := (MM.out.blk 0 rfl).below hb (MM.out.blk 0 rfl).lt
              have a := h.cell 0; have b := h.cell 1
              simp at a b
              exact ⟨a, b, (HP15W.out V (HGK.out V hb)).1, (HP15W.out V (HGK.out V hb)).2, HP5W.out V (HGK.out V hb)⟩)
            have HEND : Hid (∀ V, Below k1.heap.size k1 V → Below w.heap.size w V) := Lib.hid (fun V hb => HBW.out.trans ((HGK.out V hb).mono HBW.out.size))
            clear MM HRB HRMW HP5W HP15W
            go_upto_region 30 with fail
            obtain ⟨u, hu⟩ : ∃ z9 : World, k1.drew = z9 := ⟨_, rfl⟩
            have HBZ : Hid (Below k1.heap.size k1 u) := Lib.hid (by rw [← hu]; exact (Below.refl _ _).drew)
            refine wp_region_Y (S := (fun w' : World => w'.cell? ⟨nb, 0, none⟩ = some (.int .i64 m.next) ∧ w'.cell? ⟨nb, 1, none⟩ = some (.slice A2 n2 c2) ∧ w'.cell? ⟨p15, 2, none⟩ = some (.int .i64 px) ∧ w'.cell? ⟨p15, 3, none⟩ = some (.string r0) ∧ w'.cell? ⟨p5, 0, none⟩ = some (.int .i64 m.next) ∧ w'.cell? ⟨p5, 1, none⟩ = some (.slice A n c))) 15 (by kernel_rfl) (by rw [hu]; exact HSK.out _ HBZ.out) (fun hHeld => ?_)
            rw [hu] at hHeld ⊢
            clear hu
            refine wpAnyY_take (i := 0) (v := ?_) rfl (by kernel_rfl) (by kernel_rfl) (by kernel_rfl) (by kernel_rfl) (fun _ _ _ h => h) (Or.inl ⟨by rfl, ?_⟩) (by assumption) ?_
            rotate_left 1
            · (intro w' hSw; obtain ⟨s0, s1, s2, s3, s4, s5⟩ := hSw; go_simp); try with_reducible rfl
            try simp only [Act.put, List.setIfInBounds_toArray, List.set_cons_zero, List.set_cons_succ, Nat.zero_add]
            refine wpAnyY_take (i := 1) (v := ?_) rfl (by kernel_rfl) (by kernel_rfl) (by kernel_rfl) (by kernel_rfl) (fun _ _ _ h => h) (Or.inl ⟨by rfl, ?_⟩) (by assumption) ?_
            rotate_left 1
            · (intro w' hSw; obtain ⟨s0, s1, s2, s3, s4, s5⟩ := hSw; go_simp); try with_reducible rfl
            try simp only [Act.put, List.setIfInBounds_toArray, List.set_cons_zero, List.set_cons_succ, Nat.zero_add]
            refine wpAnyY_take (i := 2) (v := ?_) rfl (by kernel_rfl) (by kernel_rfl) (by kernel_rfl) (by kernel_rfl) (fun _ _ _ h => h) (Or.inl ⟨by rfl, ?_⟩) (by assumption) ?_
            rotate_left 1
            · (intro w' hSw; obtain ⟨s0, s1, s2, s3, s4, s5⟩ := hSw; go_simp); try with_reducible rfl
            try simp only [Act.put, List.setIfInBounds_toArray, List.set_cons_zero, List.set_cons_succ, Nat.zero_add]
            refine wpAnyY_take (i := 3) (v := ?_) rfl (by kernel_rfl) (by kernel_rfl) (by kernel_rfl) (by kernel_rfl) (fun _ _ _ h => h) (Or.inl ⟨by rfl, ?_⟩) (by assumption) ?_
            rotate_left 1
            · (intro w' hSw; obtain ⟨s0, s1, s2, s3, s4, s5⟩ := hSw; go_simp); try with_reducible rfl
            try simp only [Act.put, List.setIfInBounds_toArray, List.set_cons_zero, List.set_cons_succ, Nat.zero_add]
            refine wpAnyY_take (i := 4) (v := ?_) rfl (by kernel_rfl) (by kernel_rfl) (by kernel_rfl) (by kernel_rfl) (fun _ _ _ h => h) (Or.inl ⟨by rfl, ?_⟩) (by assumption) ?_
            rotate_left 1
            · (intro w' hSw; obtain ⟨s0, s1, s2, s3, s4, s5⟩ := hSw; go_simp); try with_reducible rfl
            try simp only [Act.put, List.setIfInBounds_toArray, List.set_cons_zero, List.set_cons_succ, Nat.zero_add]
            refine wpAnyY_take (i := 6) (v := ?_) rfl (by kernel_rfl) (by kernel_rfl) (by kernel_rfl) (by kernel_rfl) (fun _ _ _ h => h) (Or.inl ⟨by rfl, ?_⟩) (by assumption) ?_
            rotate_left 1
            · (intro w' hSw; obtain ⟨s0, s1, s2, s3, s4, s5⟩ := hSw; go_simp); try with_reducible rfl
            try simp only [Act.put, List.setIfInBounds_toArray, List.set_cons_zero, List.set_cons_succ, Nat.zero_add]
            refine wpAnyY_one (i := 5) rfl (by kernel_rfl) (fun K hK => ?_)
            go_simp
            refine (HKD3.out _ HBZ.out).mono ?_
            rintro _ v1 ⟨vk, rfl, hown, hb⟩
            have HBZ2 : Hid (Below k1.heap.size k1 v1) := Lib.hid (HBZ.out.trans (hb.mono HBZ.out.size))
            clear HBZ
            have HBZ := HBZ2
            clear HBZ2
            obtain ⟨Al, cl, rfl⟩ := hown.shape
            have HRV : Hid (RowOf 1 EInt v1 (fun b => b < v1.heap.size) Al KW) := Lib.hid (by
              obtain ⟨A', c', e, _, _, h3⟩ := hown.isRow (F := fun b => b < v1.heap.size) (fun b _ h => h)
              injection e with e1; subst e1; exact h3)
            have HRI := Lib.hid (ints_both Al Ak cl ck KW v1 (fun b => b < v1.heap.size) (fun b => b < TK) HRV.out (HRKW.out v1 (HGK.out _ HBZ.out)) HK9.out)
            rw [HKWL.out] at HRI
            clear hown HRV
            rw [HKWL.out]
            clear hb
            go_simp
            have hHeldv1 := HSK.out _ HBZ.out
            refine hK.out _ _ (fun _ => HSK.out _ HBZ.out) ?_
            clear hK K
            try simp only [Act.put, List.setIfInBounds_toArray, List.set_cons_zero, List.set_cons_succ, Nat.zero_add]
            refine wpAnyY_one (i := 7) rfl (by kernel_rfl) (fun K hK => ?_)
            go_simp
            refine (HRI.out).mono ?_
            rintro _ v2 ⟨rfl, hb⟩
            have HBZ2 : Hid (Below k1.heap.size k1 v2) := Lib.hid (HBZ.out.trans (hb.mono HBZ.out.size))
            clear HBZ
            have HBZ := HBZ2
            clear HBZ2
            clear hb
            go_simp
            have hHeldv2 := HSK.out _ HBZ.out
            refine hK.out _ _ (fun _ => HSK.out _ HBZ.out) ?_
            clear hK K
            try simp only [Act.put, List.setIfInBounds_toArray, List.set_cons_zero, List.set_cons_succ, Nat.zero_add]
            refine wpAnyY_take (i := 8) (v := ?_) rfl (by kernel_rfl) (by kernel_rfl) (by kernel_rfl) (by kernel_rfl) (fun _ _ _ h => h) (Or.inl ⟨by rfl, ?_⟩) (by assumption) ?_
            rotate_left 1
            · (intro w' hSw; obtain ⟨s0, s1, s2, s3, s4, s5⟩ := hSw; go_simp); try with_reducible rfl
            try simp only [Act.put, List.setIfInBounds_toArray, List.set_cons_zero, List.set_cons_succ, Nat.zero_add]
            refine wpAnyY_take (i := 9) (v := ?_) rfl (by kernel_rfl) (by kernel_rfl) (by kernel_rfl) (by kernel_rfl) (fun _ _ _ h => h) (Or.inl ⟨by rfl, ?_⟩) (by assumption) ?_
            rotate_left 1
            · (intro w' hSw; obtain ⟨s0, s1, s2, s3, s4, s5⟩ := hSw; go_simp); try with_reducible rfl
            try simp only [Act.put, List.setIfInBounds_toArray, List.set_cons_zero, List.set_cons_succ, Nat.zero_add]
            refine wpAnyY_take (i := 11) (v := ?_) rfl (by kernel_rfl) (by kernel_rfl) (by kernel_rfl) (by kernel_rfl) (fun _ _ _ h => h) (Or.inl ⟨by rfl, ?_⟩) (by assumption) ?_
            rotate_left 1
            · (intro w' hSw; obtain ⟨s0, s1, s2, s3, s4, s5⟩ := hSw; go_simp); try with_reducible rfl
            try simp only [Act.put, List.setIfInBounds_toArray, List.set_cons_zero, List.set_cons_succ, Nat.zero_add]
            refine wpAnyY_one (i := 10) rfl (by kernel_rfl) (fun K hK => ?_)
            go_simp
            refine (HSO1.out _ HBZ.out).mono ?_
            rintro _ v3 ⟨rfl, hb⟩
            have HBZ2 : Hid (Below k1.heap.size k1 v3) := Lib.hid (HBZ.out.trans (hb.mono HBZ.out.size))
            clear HBZ
            have HBZ := HBZ2
            clear HBZ2
            clear hb
            go_simp
            have hHeldv3 := HSK.out _ HBZ.out
            refine hK.out _ _ (fun _ => HSK.out _ HBZ.out) ?_
            clear hK K
            try simp only [Act.put, List.setIfInBounds_toArray, List.set_cons_zero, List.set_cons_succ, Nat.zero_add]
            refine wpAnyY_one (i := 12) rfl (by kernel_rfl) (fun K hK => ?_)
            go_simp
            refine (HSO2.out _ HBZ.out).mono ?_
            rintro _ v4 ⟨rfl, hb⟩
            have HBZ2 : Hid (Below k1.heap.size k1 v4) := Lib.hid (HBZ.out.trans (hb.mono HBZ.out.size))
            clear HBZ
            have HBZ := HBZ2
            clear HBZ2
            clear hb
            go_simp
            have hHeldv4 := HSK.out _ HBZ.out
            refine hK.out _ _ (fun _ => HSK.out _ HBZ.out) ?_
            clear hK K
            try simp only [Act.put, List.setIfInBounds_toArray, List.set_cons_zero, List.set_cons_succ, Nat.zero_add]
            refine wpAnyY_take (i := 13) (v := ?_) rfl (by kernel_rfl) (by kernel_rfl) (by kernel_rfl) (by kernel_rfl) (fun _ _ _ h => h) (Or.inl ⟨by rfl, ?_⟩) (by assumption) ?_
            rotate_left 1
            · (intro w' hSw; obtain ⟨s0, s1, s2, s3, s4, s5⟩ := hSw; go_simp); try with_reducible rfl
            try simp only [Act.put, List.setIfInBounds_toArray, List.set_cons_zero, List.set_cons_succ, Nat.zero_add]
            refine wpAnyY_take (i := 14) (v := ?_) rfl (by kernel_rfl) (by kernel_rfl) (by kernel_rfl) (by kernel_rfl) (fun _ _ _ h => h) (Or.inl ⟨by rfl, ?_⟩) (by assumption) ?_
            rotate_left 1
            · (intro w' hSw; obtain ⟨s0, s1, s2, s3, s4, s5⟩ := hSw; go_simp); try with_reducible rfl
            try simp only [Act.put, List.setIfInBounds_toArray, List.set_cons_zero, List.set_cons_succ, Nat.zero_add]
            refine wpAnyY_one0 (i := 15) rfl (by kernel_rfl) (by kernel_rfl) (fun K hK => ?_)
            go_simp
            refine hK.out _ _ ?_
            clear hK K
            try simp only [Act.put, List.setIfInBounds_toArray, List.set_cons_zero, List.set_cons_succ, Nat.zero_add]
            refine wpAnyY_done (by kernel_rfl) ?_ _
            go_wp2
            go_ret
            exact ⟨by simp, HEND.out _ HBZ.out⟩
end Go.Proofs.Ytmafhaadcjgcbaa
end
section
/- PROVED: ArenaBack answers true for every input, and each argument reads afterwards as it read before. No condition. -/
namespace Go.Proofs.Ytmafhaadcjgcbaa
open Go.ChangeShapes Go.WideShapes Go.ChangeAt Go.RowKit Go.Deep

theorem Try.own : ownKnob Try.prog.godebug = none := by kernel_rfl
theorem Try.laidOut : laidOutB Try.prog = true := by kernel_rfl

set_option maxRecDepth 100000 in
theorem acts_lifted (os : Os) (started : os.Started) (H : Type) (enc : TypeId × Value → H) :
    ReturnsInHanded {} Try.checked os 9 .any (Rows.arenaBackSpec.pre6 enc Try.prog Try.f9 Rows.arenaBackRow.domain false) (Rows.arenaBackSpec.post enc Try.prog Try.f9 false true false false) := by
  refine returnsInHanded_of_change_shaped (C := Try.checked) Try.own started (by kernel_rfl) Try.func9
    (ChangeSpec.witness6 (enc := enc) (C := Try.checked) false ⟨#[], #[.slice none 0 0, .agg #[.int .i64 0, .int .i64 0, .int .i64 0, .int .i64 0, .string ByteArray.empty, .string ByteArray.empty]], []⟩ 8 (by kernel_rfl) (by kernel_rfl) (by kernel_rfl) (by kernel_rfl)) ?_
  intro W base args ds gs before hval0 hW hcnd hwt _ _
  have hval : ∀ (j : Nat) t v, Try.f9.params[j]? = some t → args[j]? = some v → Value.okWide Try.prog W .any base t v := hval0
  have hW' := hW
  obtain ⟨p, q, hA0, hV, rfl, hfz, hnd⟩ := hW
  have hA : DataW.TrodAll enc Try.prog W 0 (fun _ => true) true Try.f9.params.toList args.toList ds p := hA0
  have hwt : (DataW.weightsEach Try.prog (Try.f9.params.toList ++ Rows.arenaBackSpec.plain.varTypes Try.prog) (ds ++ gs)).all (· ≤ reachBytes) = true := hwt
  rw [Try.params9] at hA hval hwt
  obtain ⟨v0, v1, d0, d1, p0, p1, rfl, rfl, rfl, h0, h1⟩ := trodAll_two hA
  obtain ⟨rfl, rfl⟩ := trodVars_none hV
  obtain ⟨l, hl, hzl⟩ := qacts_arg (hval 0 70 v0 rfl rfl) h0 (WtOK.args hwt (i := 0) rfl rfl)
  obtain ⟨a, rfl, haa⟩ := qact_arg (hval 1 74 v1 rfl rfl) h1 (WtOK.args hwt (i := 1) rfl rfl)
  clear hA0 hval0
  simp only [List.append_nil] at hW'
  have hlt : ∀ x ∈ p0 ++ p1, x.block < W.heap.size := fun x hx => hW'.lt x (by simpa using hx)
  refine (back_law v0 l a W hl hzl haa).mono fun e W' ⟨he, hbw⟩ => ?_
  subst he
  exact ⟨_, rfl, post_of_below (pa := p0 ++ p1) (pv := []) hW' (fun _ _ _ => trodAll_mk1 (shut_bool Try.underlying4 _))
    (fun sp hsp => by
      have h4 := trodAll_mk2 (trod_behind Try.laidOut (by kernel_rfl) (of_decide_eq_true (by kernel_rfl)) h0 hbw (fun x hx => hlt x (by simp [hx])) sp (fun x hx => hsp x (by simp [hx]))) (trod_behind Try.laidOut (by kernel_rfl) (of_decide_eq_true (by kernel_rfl)) h1 hbw (fun x hx => hlt x (by simp [hx])) sp (fun x hx => hsp x (by simp [hx])))
      exact h4)
    (fun _ _ => rfl) (by simp) hbw (ok_one (by kernel_rfl) rfl (okWide_bool_mk Try.underlying4 _))⟩

theorem arenaBack_holds : Rows.ArenaBackSaid :=
  OpenClaim.holds_of_wide 9 Try.f9 rfl rfl rfl rfl rfl rfl rfl ⟨rfl, rfl, rfl, rfl, rfl⟩ rfl rfl rfl rfl rfl (by kernel_rfl) Try.func9 (by kernel_rfl)
    (of_decide_eq_true (by kernel_rfl)) (by unfold Func.isWrapper; rw [if_neg (of_decide_eq_false (by kernel_rfl))]; exact ⟨rfl, rfl⟩)
    (fun os started H enc _ => acts_lifted os started H enc)
#print axioms arenaBack_holds
end Go.Proofs.Ytmafhaadcjgcbaa
end
