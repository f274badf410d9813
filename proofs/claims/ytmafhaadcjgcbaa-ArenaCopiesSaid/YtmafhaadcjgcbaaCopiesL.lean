import Derived.Test.YtmafhaadcjgcbaaCopyW
import Derived.Test.YtmafhaadcjgcbaaBuiltA
import Derived.Test.YtmafhaadcjgcbaaATellsA
import Derived.Test.YtmafhaadcjgcbaaASameRef
import Derived.Test.YtmafhaadcjgcbaaRegZ
import Derived.Lib.QuietBelow
set_option linter.unusedSimpArgs false
set_option linter.unusedVariables false
/- the law: a copy is what it was made of -/
namespace Go.Proofs.Ytmafhaadcjgcbaa
open Go Go.RowKit

theorem copy_len (m : AModel) (id p : Int) (role : ByteArray) (a : Int) : (copyL m id p role a).length = m.nodes.length + (ksL m id).length := by
  unfold copyL; rw [placeN_len, List.length_append, copies_len]

def wantJ (m0 : Int) (KS : List Int) (t : Int) (j : Nat) : Int := if t ∈ KS.take j then m0 + idxI KS t else t
section
variable {m0 : Int} {KS : List Int} {t : Int} {j : Nat}
theorem wantJ_zero : wantJ m0 KS t 0 = t := by simp [wantJ]
theorem wantJ_no (hj : j < KS.length) (h : KS[j] ≠ t) : wantJ m0 KS t (j + 1) = wantJ m0 KS t j := by
  have e : t ∈ KS.take (j + 1) ↔ t ∈ KS.take j := by
    rw [List.take_succ_eq_append_getElem hj, List.mem_append, List.mem_singleton]
    exact ⟨fun h2 => h2.resolve_right (fun e => h e.symm), .inl⟩
  unfold wantJ
  by_cases h1 : t ∈ KS.take j
  · rw [if_pos h1, if_pos (e.2 h1)]
  · rw [if_neg h1, if_neg (fun h2 => h1 (e.1 h2))]
theorem wantJ_yes (hj : j < KS.length) (hnd : KS.Nodup) (h : KS[j] = t) : wantJ m0 KS t (j + 1) = m0 + (j : Int) := by
  have e : t ∈ KS.take (j + 1) := by
    rw [List.take_succ_eq_append_getElem hj, List.mem_append, List.mem_singleton]
    exact .inr h.symm
  have e2 : idxI KS t = j := idxI_at hj h fun q hq hqj e => by
    exact List.pairwise_iff_getElem.1 hnd q j hq hj hqj (e.trans h.symm)
  unfold wantJ
  rw [if_pos e, e2]
theorem wantJ_all (r : ARef) : wantJ m0 KS r.target KS.length = (refTo m0 KS r).target := by
  unfold wantJ refTo
  rw [List.take_length]
  by_cases h : r.target ∈ KS
  · rw [if_pos h, if_pos h]
  · rw [if_neg h, if_neg h]
end
theorem refTo_role (m0 : Int) (KS : List Int) (r : ARef) : (refTo m0 KS r).role = r.role := by unfold refTo; split <;> rfl
/-- a node as Find answers it -/
def NodeGot (w w2 : World) (id : Int) (con : ByteArray) (par : Int) (role : ByteArray) (np nk : Nat) (refs : List ARef) (v : Value) : Prop :=
  ∃ P cp K ck R cr, v = .tuple #[.agg #[.int .i64 id, .string con, .int .i64 par, .string role, .slice P np cp, .slice K nk ck, .slice R refs.length cr], .bool true] ∧ RowOf 2 ERef w2 (fun b => w.heap.size ≤ b ∧ b < w2.heap.size) R refs
theorem node_got {w w2 : World} {m : AModel} {z : ANode} (hc : CheckM m) (hz : z ∈ m.nodes) {id par : Int} {con role : ByteArray} {np nk : Nat} {refs : List ARef} (e0 : z.id = id) (e1 : z.concept = con) (e2 : z.parent = par) (e3 : z.role = role) (e4 : z.props.length = np) (e5 : z.kids.length = nk) (e6 : z.refs = refs) {v : Value} (h : FoundAs w2 (fun b => w.heap.size ≤ b ∧ b < w2.heap.size) m id v) : NodeGot w w2 id con par role np nk refs v := by
  rcases h with ⟨y, hy, _, hi, vp, vk, vr, rfl, hp, hk, hr, _⟩ | ⟨hn, _⟩
  · have e : y = z := node_inj hc.1.2 hy hz (hi.trans e0.symm)
    subst e
    obtain ⟨P, cp, rfl, _⟩ := hp
    obtain ⟨K, ck, rfl, _⟩ := hk
    obtain ⟨R, cr, rfl, _, _, h3⟩ := hr
    subst e0 e1 e2 e3 e4 e5 e6
    exact ⟨P, cp, K, ck, R, cr, rfl, h3⟩
  · exact absurd ⟨hc, z, hz, e0⟩ hn

set_option maxRecDepth 100000 in
set_option maxHeartbeats 16000000 in
theorem copies_law (va : Value) (acts : List QAct) (a : QAct) (w : World) (h : IsRow 6 EQAct w (fun b => b < w.heap.size) va acts) (hz : ∀ a ∈ acts, ActOK a) (ha : ActOK a) :
    Calls Try.prog 11 #[va, .agg (qactCells a).toArray] w fun e w' => e = .returned (.bool true) ∧ Below w.heap.size w w' := by
  obtain ⟨Sa, ca, rfl, hc1, hc2, hr⟩ := h
  have HRA := Lib.hid (fun (w' : World) (hb : Below w.heap.size w w') => (⟨Sa, ca, rfl, hc1, hc2, RowOf.keep EQAct.stays (Keep.below hb fun _ h => h) (F' := fun b => b < w'.heap.size) (fun b h => Nat.lt_of_lt_of_le h hb.size) hr⟩ : IsRow 6 EQAct w' (fun b => b < w'.heap.size) (.slice Sa acts.length ca) acts))
  have HZ := Lib.hid hz; have HAO := Lib.hid ha
  clear hr hz ha hc1 hc2
  show Calls Try.prog _ #[_, .agg #[.int .i64 a.kind, .int .i64 a.a, .int .i64 a.b, .int .i64 a.at', .string a.word, .string a.text]] w _
  obtain ⟨ak, hak⟩ : ∃ z, a.kind = z := ⟨_, rfl⟩
  obtain ⟨aa, haa⟩ : ∃ z, a.a = z := ⟨_, rfl⟩
  obtain ⟨ab, hab⟩ : ∃ z, a.b = z := ⟨_, rfl⟩
  obtain ⟨at2, hat2⟩ : ∃ z, a.at' = z := ⟨_, rfl⟩
  obtain ⟨wd, hwd⟩ : ∃ z, a.word = z := ⟨_, rfl⟩
  obtain ⟨tx, htx⟩ : ∃ z, a.text = z := ⟨_, rfl⟩
  have HAA := Lib.hid haa; have HAB := Lib.hid hab; have HAT := Lib.hid hat2; have HWD := Lib.hid hwd
  rw [hak, haa, hab, hat2, hwd, htx]
  clear hak haa hab hat2 hwd htx
  obtain ⟨u0, hu0⟩ : ∃ u : World, w.alloc (.cells #[.int .i64 ak, .int .i64 aa, .int .i64 ab, .int .i64 at2, .string wd, .string tx] 74) = u := ⟨_, rfl⟩
  have MM : Hid (Mem w u0 ([.blk w.heap.size 74 #[.int .i64 ak, .int .i64 aa, .int .i64 ab, .int .i64 at2, .string wd, .string tx]])) := Lib.hid (by rw [← hu0]; exact (Mem.start w).allocG rfl #[.int .i64 ak, .int .i64 aa, .int .i64 ab, .int .i64 at2, .string wd, .string tx] 74)
  have HU0 := Lib.hid hu0
  clear hu0
  go_enter Try.func11, Try.ntmps11
  go_wp2_with fail
  (try rw [HU0.out])
  clear HU0
  refine (wake_any u0).mono ?_
  rintro _ w1 ⟨rfl, hb⟩
  have MM2 : Hid (Mem w w1 ([.blk w.heap.size 74 #[.int .i64 ak, .int .i64 aa, .int .i64 ab, .int .i64 at2, .string wd, .string tx]])) := Lib.hid (MM.out.call hb)
  clear MM
  have MM := MM2
  clear MM2
  clear hb
  go_wp2_with fail
  refine (built_any _ acts w1 (HRA.out _ MM.out.below) HZ.out).mono ?_
  rintro _ w2 ⟨⟨v, rfl, hbu⟩, hb⟩
  obtain ⟨m, A, c, rfl, hr, hcm, hfw⟩ := hbu
  have HCM := Lib.hid hcm; have HFW := Lib.hid hfw
  have hl4 : m.nodes.length ≤ 4096 := hcm.1.1.2.2
  obtain ⟨B1, hB1⟩ : ∃ z, w2.heap.size = z := ⟨_, rfl⟩
  have HRM : Hid (RowOf 7 ENode w2 (fun b => b < B1) A m.nodes) := Lib.hid (by rw [← hB1]; exact hr)
  have HLRM : Hid (B1 ≤ w2.heap.size) := Lib.hid (Nat.le_of_eq hB1.symm)
  obtain ⟨n, hn⟩ : ∃ n, m.nodes.length = n := ⟨_, rfl⟩
  rw [hn] at hl4
  have HN := Lib.hid hn
  rw [hn]
  clear hr hcm hfw hB1 hn HRA HZ
  have MM2 : Hid (Mem w w2 ([.blk w.heap.size 74 #[.int .i64 ak, .int .i64 aa, .int .i64 ab, .int .i64 at2, .string wd, .string tx]])) := Lib.hid (MM.out.call hb)
  clear MM
  have MM := MM2
  clear MM2
  clear hb
  have HF1 : Hid (∀ w' : World, B1 ≤ w'.heap.size → ∀ b, b < B1 → b < w'.heap.size) := Lib.hid (fun w' h b hb => Nat.lt_of_lt_of_le hb h)
  have HLN := Lib.hid (lens_few HCM.out HFW.out (by omega : (150 : Nat) ≤ 100000))
  have HNO := Lib.hid (node_ok HCM.out)
  obtain ⟨x, hx⟩ : ∃ x, pickI m a.a = x := ⟨_, rfl⟩
  obtain ⟨y, hy⟩ : ∃ y, pickI m a.b = y := ⟨_, rfl⟩
  have hxr : InR x := by rw [← hx]; exact pick_inR HCM.out _
  have hyr : InR y := by rw [← hy]; exact pick_inR HCM.out _
  have HXP : Hid (x = 0 ∨ ∃ z ∈ m.nodes, z.id = x) := Lib.hid (by rw [← hx]; exact pick_in HCM.out _)
  have HYP : Hid (y = 0 ∨ ∃ z ∈ m.nodes, z.id = y) := Lib.hid (by rw [← hy]; exact pick_in HCM.out _)
  have HPA := Lib.hid (fun (w' : World) (h : RowOf 7 ENode w' (fun b => b < B1) A m.nodes) (hB : B1 ≤ w'.heap.size) => pick_any A c m w' (fun b => b < B1) (HF1.out _ hB) h HCM.out a.a HAO.out.ha)
  have HPB := Lib.hid (fun (w' : World) (h : RowOf 7 ENode w' (fun b => b < B1) A m.nodes) (hB : B1 ≤ w'.heap.size) => pick_any A c m w' (fun b => b < B1) (HF1.out _ hB) h HCM.out a.b HAO.out.hb)
  rw [hx, HAA.out, HN.out] at HPA
  rw [hy, HAB.out, HN.out] at HPB
  have HKD := Lib.hid (fun (w' : World) (h : RowOf 7 ENode w' (fun b => b < B1) A m.nodes) (hB : B1 ≤ w'.heap.size) => kidsA_any A c m w' (fun b => b < B1) (HF1.out _ hB) h HNO.out (by rw [HN.out]; omega) y hyr wd)
  obtain ⟨KL, hKL⟩ : ∃ L, kidR m wd y = L := ⟨_, rfl⟩
  have hkl : KL.length ≤ 4096 := by rw [← hKL]; exact kidR_len HCM.out _ _
  rw [hKL, HN.out] at HKD
  obtain ⟨q, hq⟩ : ∃ q, restN at2 (KL.length + 1) = q := ⟨_, rfl⟩
  have hql : q < KL.length + 1 := by rw [← hq]; exact restN_lt _ (by omega)
  have HRQ : Hid (∀ w', Calls Try.prog 58 #[.int .i64 at2, .int .i64 (IntKind.i64.wrap ((KL.length : Int) + 1))] w' fun e w2 => e = .returned (.int .i64 q) ∧ Below w'.heap.size w' w2) := Lib.hid (fun w' => by
    rw [IntWalk.i64_in ((KL.length : Int) + 1) ⟨by omega, by omega⟩]
    have := rest_any at2 (KL.length + 1) (by rw [← HAT.out]; exact HAO.out.hat) (by omega) (by omega) w'
    rw [hq] at this
    exact this)
  obtain ⟨ro, hro⟩ : ∃ r, (if y = 0 then (⟨#[]⟩ : ByteArray) else wd) = r := ⟨_, rfl⟩
  obtain ⟨pl, hpl⟩ : ∃ p, (if y = 0 then (0 : Int) else q) = p := ⟨_, rfl⟩
  have HR0 : Hid (y = 0 → ro = ⟨#[]⟩ ∧ pl = 0) := Lib.hid (fun h0 => by rw [← hro, ← hpl]; exact ⟨if_pos h0, if_pos h0⟩)
  have HR1 : Hid (y ≠ 0 → ro = wd ∧ pl = q) := Lib.hid (fun h0 => by rw [← hro, ← hpl]; exact ⟨if_neg h0, if_neg h0⟩)
  have hwds : wd.size ≤ 9223372036854775807 := by rw [← HWD.out]; exact HAO.out.hword
  have hros : ro.size ≤ 9223372036854775807 := by
    by_cases h0 : y = 0
    · rw [(HR0.out h0).1]; decide
    · rw [(HR1.out h0).1]; exact hwds
  have hplr : InR pl := by
    by_cases h0 : y = 0
    · rw [(HR0.out h0).2]; unfold InR; omega
    · rw [(HR1.out h0).2]; unfold InR; omega
  clear hx hy hKL hq hro hpl HAA HAB HAT HWD HAO
  obtain ⟨p5, hg⟩ : ∃ x, w2.heap.size = x := ⟨_, rfl⟩
  obtain ⟨w3, hu⟩ : ∃ z9 : World, w2.alloc (.cells #[.int .i64 m.next, .slice A n c] 24) = z9 := ⟨_, rfl⟩
  have hb : Below w2.heap.size w2 w3 := by rw [← hu]; exact (Below.refl _ _).alloc (Nat.le_refl _) _
  have MM2 : Hid (Mem w w3 ([.blk p5 24 #[.int .i64 m.next, .slice A n c], .blk w.heap.size 74 #[.int .i64 ak, .int .i64 aa, .int .i64 ab, .int .i64 at2, .string wd, .string tx]])) := Lib.hid (by rw [← hu]; exact MM.out.allocG hg #[.int .i64 m.next, .slice A n c] 24)
  clear MM
  have MM := MM2
  clear MM2
  have HRM2 : Hid (RowOf 7 ENode w3 (fun b => b < B1) A m.nodes) := Lib.hid (HRM.out.keep ENode.stays (Keep.below hb (fun b h => Nat.lt_of_lt_of_le (h) HLRM.out)) (fun _ h => h))
  have HLRM2 : Hid (B1 ≤ w3.heap.size) := Lib.hid (Nat.le_trans HLRM.out hb.size)
  clear HRM HLRM
  have HRM := HRM2; have HLRM := HLRM2
  clear HRM2 HLRM2
  have HU9 := Lib.hid hu; have HHp5 : Hid (w2.heap.size = p5) := Lib.hid hg
  clear hb hu hg
  go_upto_region 4 with fail
  (try rw [HU9.out])
  (try rw [HHp5.out])
  (try rw [HU9.out])
  clear HU9
  have mc0 := (MM.out.blk 0 rfl).cell 0
  have mc1 := (MM.out.blk 0 rfl).cell 1
  have mlt := (MM.out.blk 0 rfl).lt
  simp at mc0 mc1
  have cc1 := (MM.out.blk 1 rfl).cell 1
  have cc2 := (MM.out.blk 1 rfl).cell 2
  have clt := (MM.out.blk 1 rfl).lt
  simp at cc1 cc2
  have k0 := cell_regrown (mc0)
  have k1 := cell_regrown (mc1)
  have k2 := cell_regrown (cc1)
  have k3 := cell_regrown (cc2)
  have CHA := Lib.hid (fun (d : Nat) (os : Array Obj) => Calls.regrown_of (w := w3) (d := d) (os := os) (HPA.out _ (HRM.out.keep ENode.stays (Keep.below (below_regrown w3 d os) (fun b h => Nat.lt_of_lt_of_le h HLRM.out)) (fun _ h => h)) (Nat.le_trans HLRM.out (below_regrown w3 d os).size)))
  have CHB := Lib.hid (fun (d : Nat) (os : Array Obj) => Calls.regrown_of (w := w3) (d := d) (os := os) (HPB.out _ (HRM.out.keep ENode.stays (Keep.below (below_regrown w3 d os) (fun b h => Nat.lt_of_lt_of_le h HLRM.out)) (fun _ h => h)) (Nat.le_trans HLRM.out (below_regrown w3 d os).size)))
  clear HPA HPB mc0 mc1 mlt cc1 cc2 clt
  refine wp_region_quiet_below (by kernel_rfl) (by kernel_rfl) ?_
  iterate 7 (first | go_big_quiet_step (exact CHA.out _ _) | quiet_step (exact CHA.out _ _))
  repeat (first | go_big_quiet_step (exact CHB.out _ _) | quiet_step (exact CHB.out _ _))
  refine wpQuiet_nil ?_
  intro _ hw'
  obtain ⟨⟨dq, osq⟩, hw''⟩ := hw'
  subst hw''
  have hb := below_regrown w3 dq osq
  obtain ⟨w4, hwi⟩ : ∃ u : World, Sort.grow (redrawn w3 dq) osq = u := ⟨_, rfl⟩
  rw [hwi] at hb ⊢
  clear hwi k0 k1 k2 k3 CHA CHB
  have MM2 : Hid (Mem w w4 ([.blk p5 24 #[.int .i64 m.next, .slice A n c], .blk w.heap.size 74 #[.int .i64 ak, .int .i64 aa, .int .i64 ab, .int .i64 at2, .string wd, .string tx]])) := Lib.hid (MM.out.call hb)
  clear MM
  have MM := MM2
  clear MM2
  have HRM2 : Hid (RowOf 7 ENode w4 (fun b => b < B1) A m.nodes) := Lib.hid (HRM.out.keep ENode.stays (Keep.below hb (fun b h => Nat.lt_of_lt_of_le (h) HLRM.out)) (fun _ h => h))
  have HLRM2 : Hid (B1 ≤ w4.heap.size) := Lib.hid (Nat.le_trans HLRM.out hb.size)
  clear HRM HLRM
  have HRM := HRM2; have HLRM := HLRM2
  clear HRM2 HLRM2
  clear hb
  have cc4 := (MM.out.blk 1 rfl).cell 4
  have clt := (MM.out.blk 1 rfl).lt
  simp at cc4
  go_upto_region 6 with fail
  clear cc4 clt
  have HSM : Hid (∀ w', Blk w' p5 24 #[.int .i64 m.next, .slice A n c] → Blk w' w.heap.size 74 #[.int .i64 ak, .int .i64 aa, .int .i64 ab, .int .i64 at2, .string wd, .string tx] → w'.cell? ⟨p5, 0, none⟩ = some (.int .i64 m.next) ∧ w'.cell? ⟨p5, 1, none⟩ = some (.slice A n c) ∧ w'.cell? ⟨w.heap.size, 3, none⟩ = some (.int .i64 at2)) := Lib.hid (fun w' h h2 => by
    have a := h.cell 0; have b := h.cell 1; have d := h2.cell 3
    simp at a b d
    exact ⟨a, b, d⟩)
  obtain ⟨u, hu⟩ : ∃ z9 : World, w4.drew = z9 := ⟨_, rfl⟩
  have hb : Below w4.heap.size w4 u := by rw [← hu]; exact (Below.refl _ _).drew
  have MM2 : Hid (Mem w u ([.blk p5 24 #[.int .i64 m.next, .slice A n c], .blk w.heap.size 74 #[.int .i64 ak, .int .i64 aa, .int .i64 ab, .int .i64 at2, .string wd, .string tx]])) := Lib.hid (by rw [← hu]; exact MM.out.drew)
  clear MM
  have MM := MM2
  clear MM2
  have HRM2 : Hid (RowOf 7 ENode u (fun b => b < B1) A m.nodes) := Lib.hid (HRM.out.keep ENode.stays (Keep.below hb (fun b h => Nat.lt_of_lt_of_le (h) HLRM.out)) (fun _ h => h))
  have HLRM2 : Hid (B1 ≤ u.heap.size) := Lib.hid (Nat.le_trans HLRM.out hb.size)
  clear HRM HLRM
  have HRM := HRM2; have HLRM := HLRM2
  clear HRM2 HLRM2
  clear hb
  refine wp_region_Y (S := (fun w' : World => w'.cell? ⟨p5, 0, none⟩ = some (.int .i64 m.next) ∧ w'.cell? ⟨p5, 1, none⟩ = some (.slice A n c) ∧ w'.cell? ⟨w.heap.size, 3, none⟩ = some (.int .i64 at2))) 9 (by kernel_rfl) (by rw [hu]; exact HSM.out _ (MM.out.blk 0 rfl) (MM.out.blk 1 rfl)) (fun hHeld => ?_)
  rw [hu] at hHeld ⊢
  clear hu
  refine wpAnyY_take (i := 0) (v := ?_) rfl (by kernel_rfl) (by kernel_rfl) (by kernel_rfl) (by kernel_rfl) (fun _ _ _ h => h) (Or.inl ⟨by rfl, ?_⟩) (by assumption) ?_
  rotate_left 1
  · (intro w' hSw; obtain ⟨s0, s1, s2⟩ := hSw; go_simp); try with_reducible rfl
  try simp only [Act.put, List.setIfInBounds_toArray, List.set_cons_zero, List.set_cons_succ, Nat.zero_add]
  refine wpAnyY_take (i := 1) (v := ?_) rfl (by kernel_rfl) (by kernel_rfl) (by kernel_rfl) (by kernel_rfl) (fun _ _ _ h => h) (Or.inl ⟨by rfl, ?_⟩) (by assumption) ?_
  rotate_left 1
  · (intro w' hSw; obtain ⟨s0, s1, s2⟩ := hSw; go_simp); try with_reducible rfl
  try simp only [Act.put, List.setIfInBounds_toArray, List.set_cons_zero, List.set_cons_succ, Nat.zero_add]
  refine wpAnyY_take (i := 2) (v := ?_) rfl (by kernel_rfl) (by kernel_rfl) (by kernel_rfl) (by kernel_rfl) (fun _ _ _ h => h) (Or.inl ⟨by rfl, ?_⟩) (by assumption) ?_
  rotate_left 1
  · (intro w' hSw; obtain ⟨s0, s1, s2⟩ := hSw; go_simp); try with_reducible rfl
  try simp only [Act.put, List.setIfInBounds_toArray, List.set_cons_zero, List.set_cons_succ, Nat.zero_add]
  refine wpAnyY_take (i := 3) (v := ?_) rfl (by kernel_rfl) (by kernel_rfl) (by kernel_rfl) (by kernel_rfl) (fun _ _ _ h => h) (Or.inl ⟨by rfl, ?_⟩) (by assumption) ?_
  rotate_left 1
  · (intro w' hSw; obtain ⟨s0, s1, s2⟩ := hSw; go_simp); try with_reducible rfl
  try simp only [Act.put, List.setIfInBounds_toArray, List.set_cons_zero, List.set_cons_succ, Nat.zero_add]
  refine wpAnyY_take (i := 4) (v := ?_) rfl (by kernel_rfl) (by kernel_rfl) (by kernel_rfl) (by kernel_rfl) (fun _ _ _ h => h) (Or.inl ⟨by rfl, ?_⟩) (by assumption) ?_
  rotate_left 1
  · (intro w' hSw; obtain ⟨s0, s1, s2⟩ := hSw; go_simp); try with_reducible rfl
  try simp only [Act.put, List.setIfInBounds_toArray, List.set_cons_zero, List.set_cons_succ, Nat.zero_add]
  refine wpAnyY_one (i := 5) rfl (by kernel_rfl) (fun K hK => ?_)
  go_simp
  refine (HKD.out _ HRM.out HLRM.out).mono ?_
  rintro _ v1 ⟨vk, rfl, hown, hb⟩
  obtain ⟨Ak, ck, rfl⟩ := hown.shape
  clear hown
  have MM2 : Hid (Mem w v1 ([.blk p5 24 #[.int .i64 m.next, .slice A n c], .blk w.heap.size 74 #[.int .i64 ak, .int .i64 aa, .int .i64 ab, .int .i64 at2, .string wd, .string tx]])) := Lib.hid (MM.out.call hb)
  clear MM
  have MM := MM2
  clear MM2
  have HRM2 : Hid (RowOf 7 ENode v1 (fun b => b < B1) A m.nodes) := Lib.hid (HRM.out.keep ENode.stays (Keep.below hb (fun b h => Nat.lt_of_lt_of_le (h) HLRM.out)) (fun _ h => h))
  have HLRM2 : Hid (B1 ≤ v1.heap.size) := Lib.hid (Nat.le_trans HLRM.out hb.size)
  clear HRM HLRM
  have HRM := HRM2; have HLRM := HLRM2
  clear HRM2 HLRM2
  clear hb
  go_simp
  have hHeldv1 := HSM.out _ (MM.out.blk 0 rfl) (MM.out.blk 1 rfl)
  refine hK.out _ _ (fun _ => HSM.out _ (MM.out.blk 0 rfl) (MM.out.blk 1 rfl)) ?_
  clear hK K
  try simp only [Act.put, List.setIfInBounds_toArray, List.set_cons_zero, List.set_cons_succ, Nat.zero_add]
  refine wpAnyY_take (i := 6) (v := ?_) rfl (by kernel_rfl) (by kernel_rfl) (by kernel_rfl) (by kernel_rfl) (fun _ _ _ h => h) (Or.inl ⟨by rfl, ?_⟩) (by assumption) ?_
  rotate_left 1
  · (intro w' hSw; obtain ⟨s0, s1, s2⟩ := hSw; go_simp); try with_reducible rfl
  try simp only [Act.put, List.setIfInBounds_toArray, List.set_cons_zero, List.set_cons_succ, Nat.zero_add]
  refine wpAnyY_take (i := 7) (v := ?_) rfl (by kernel_rfl) (by kernel_rfl) (by kernel_rfl) (by kernel_rfl) (fun _ _ _ h => h) (Or.inl ⟨by rfl, ?_⟩) (by assumption) ?_
  rotate_left 1
  · (intro w' hSw; obtain ⟨s0, s1, s2⟩ := hSw; go_simp); try with_reducible rfl
  try simp only [Act.put, List.setIfInBounds_toArray, List.set_cons_zero, List.set_cons_succ, Nat.zero_add]
  refine wpAnyY_one (i := 8) rfl (by kernel_rfl) (fun K hK => ?_)
  go_simp
  refine (HRQ.out _).mono ?_
  rintro _ v2 ⟨rfl, hb⟩
  have MM2 : Hid (Mem w v2 ([.blk p5 24 #[.int .i64 m.next, .slice A n c], .blk w.heap.size 74 #[.int .i64 ak, .int .i64 aa, .int .i64 ab, .int .i64 at2, .string wd, .string tx]])) := Lib.hid (MM.out.call hb)
  clear MM
  have MM := MM2
  clear MM2
  have HRM2 : Hid (RowOf 7 ENode v2 (fun b => b < B1) A m.nodes) := Lib.hid (HRM.out.keep ENode.stays (Keep.below hb (fun b h => Nat.lt_of_lt_of_le (h) HLRM.out)) (fun _ h => h))
  have HLRM2 : Hid (B1 ≤ v2.heap.size) := Lib.hid (Nat.le_trans HLRM.out hb.size)
  clear HRM HLRM
  have HRM := HRM2; have HLRM := HLRM2
  clear HRM2 HLRM2
  clear hb
  go_simp
  have hHeldv2 := HSM.out _ (MM.out.blk 0 rfl) (MM.out.blk 1 rfl)
  refine hK.out _ _ (fun _ => HSM.out _ (MM.out.blk 0 rfl) (MM.out.blk 1 rfl)) ?_
  clear hK K
  try simp only [Act.put, List.setIfInBounds_toArray, List.set_cons_zero, List.set_cons_succ, Nat.zero_add]
  refine wpAnyY_one0 (i := 9) rfl (by kernel_rfl) (by kernel_rfl) (fun K hK => ?_)
  go_simp
  refine hK.out _ _ ?_
  clear hK K
  try simp only [Act.put, List.setIfInBounds_toArray, List.set_cons_zero, List.set_cons_succ, Nat.zero_add]
  refine wpAnyY_done (by kernel_rfl) ?_ _
  clear hHeld hHeldv1 hHeldv2 HKD HRQ HSM
  go_upto_if 49 with fail
  go_cut [8, 9] (fun s8 s9 wx => s8 = .string ro ∧ s9 = .int .i64 pl ∧ Mem w wx ([.blk p5 24 #[.int .i64 m.next, .slice A n c], .blk w.heap.size 74 #[.int .i64 ak, .int .i64 aa, .int .i64 ab, .int .i64 at2, .string wd, .string tx]]) ∧ RowOf 7 ENode wx (fun b => b < B1) A m.nodes ∧ B1 ≤ wx.heap.size)
  case first =>
    by_cases hy0 : y = 0
    · obtain ⟨e1, e2⟩ := HR0.out hy0
      subst hy0
      have G1 := Lib.hid e1; have G2 := Lib.hid e2
      clear e1 e2 HR0 HR1
      go_wp2_with fail
      go_meet
      case rel => exact ⟨by rw [G1.out], by rw [G2.out], MM.out, HRM.out, HLRM.out⟩
    · obtain ⟨e1, e2⟩ := HR1.out hy0
      have g1 : (y == 0) = false := by simp; exact hy0
      have G1 := Lib.hid e1; have G2 := Lib.hid e2
      clear e1 e2 hy0 HR0 HR1
      go_wp2_with fail
      go_meet
      case rel => exact ⟨by rw [G1.out], by rw [G2.out], MM.out, HRM.out, HLRM.out⟩
  case rest =>
    obtain ⟨rfl, rfl, hm, hr, hbl⟩ := hcut
    clear MM HRM HLRM
    obtain ⟨c1, rfl⟩ : ∃ v : World, v = wc := ⟨_, rfl⟩
    have MM := Lib.hid hm; have HRM := Lib.hid hr; have HLRM := Lib.hid hbl
    clear hm hr hbl
    have HCP := Lib.hid (fun (w' : World) (h : RowOf 7 ENode w' (fun b => b < B1) A m.nodes) (hB : B1 ≤ w'.heap.size) => copyA_any A c m w' (fun b => b < B1) (HF1.out _ hB) h HNO.out HLN.out (by rw [HN.out]; omega) x hxr y hyr ro hros pl hplr)
    rw [HN.out] at HCP
    obtain ⟨E, hE⟩ : ∃ E, copyE m x y ro pl = E := ⟨_, rfl⟩
    rw [hE] at HCP
    have HEE := Lib.hid hE
    clear hE
    by_cases hE0 : E = 0
    rotate_left 1
    · as_aux_lemma =>
      have g1 : (E != 0) = true := by simp; exact hE0
      have HE0 := Lib.hid hE0
      clear hE0
      have mc0 := (MM.out.blk 0 rfl).cell 0
      have mc1 := (MM.out.blk 0 rfl).cell 1
      have mlt := (MM.out.blk 0 rfl).lt
      simp at mc0 mc1
      go_wp2_with fail
      refine (HCP.out _ HRM.out HLRM.out).mono ?_
      rintro _ d1 ⟨⟨v, rfl, hres⟩, hb⟩
      obtain rfl : v = .tuple #[.agg #[.int .i64 0, .slice none 0 0], .int .i64 0, .int .i64 E] := by
        rcases hres with ⟨_, e⟩ | ⟨e, _⟩
        · exact e
        · exact absurd e HE0.out
      clear hres
      clear mc0 mc1 mlt
      have MM2 : Hid (Mem w d1 ([.blk p5 24 #[.int .i64 m.next, .slice A n c], .blk w.heap.size 74 #[.int .i64 ak, .int .i64 aa, .int .i64 ab, .int .i64 at2, .string wd, .string tx]])) := Lib.hid (MM.out.call hb)
      clear MM
      have MM := MM2
      clear MM2
      have HRM2 : Hid (RowOf 7 ENode d1 (fun b => b < B1) A m.nodes) := Lib.hid (HRM.out.keep ENode.stays (Keep.below hb (fun b h => Nat.lt_of_lt_of_le (h) HLRM.out)) (fun _ h => h))
      have HLRM2 : Hid (B1 ≤ d1.heap.size) := Lib.hid (Nat.le_trans HLRM.out hb.size)
      clear HRM HLRM
      have HRM := HRM2; have HLRM := HLRM2
      clear HRM2 HLRM2
      clear hb
      obtain ⟨p10, hg⟩ : ∃ x, d1.heap.size = x := ⟨_, rfl⟩
      obtain ⟨d2, hu⟩ : ∃ z9 : World, d1.alloc (.cells #[.int .i64 0, .slice none 0 0] 24) = z9 := ⟨_, rfl⟩
      have hb : Below d1.heap.size d1 d2 := by rw [← hu]; exact (Below.refl _ _).alloc (Nat.le_refl _) _
      have MM2 : Hid (Mem w d2 ([.blk p10 24 #[.int .i64 0, .slice none 0 0], .blk p5 24 #[.int .i64 m.next, .slice A n c], .blk w.heap.size 74 #[.int .i64 ak, .int .i64 aa, .int .i64 ab, .int .i64 at2, .string wd, .string tx]])) := Lib.hid (by rw [← hu]; exact MM.out.allocG hg #[.int .i64 0, .slice none 0 0] 24)
      clear MM
      have MM := MM2
      clear MM2
      have HRM2 : Hid (RowOf 7 ENode d2 (fun b => b < B1) A m.nodes) := Lib.hid (HRM.out.keep ENode.stays (Keep.below hb (fun b h => Nat.lt_of_lt_of_le (h) HLRM.out)) (fun _ h => h))
      have HLRM2 : Hid (B1 ≤ d2.heap.size) := Lib.hid (Nat.le_trans HLRM.out hb.size)
      clear HRM HLRM
      have HRM := HRM2; have HLRM := HLRM2
      clear HRM2 HLRM2
      have HU9 := Lib.hid hu; have HHp10 : Hid (d1.heap.size = p10) := Lib.hid hg
      clear hb hu hg
      go_upto_region 10 with fail
      (try rw [HU9.out])
      (try rw [HHp10.out])
      (try rw [HU9.out])
      clear HU9
      have zc0 := (MM.out.blk 0 rfl).cell 0
      have zc1 := (MM.out.blk 0 rfl).cell 1
      have zlt := (MM.out.blk 0 rfl).lt
      simp at zc0 zc1
      go_wp2
      go_ret
      exact ⟨by simp, MM.out.below⟩
    subst hE0
    obtain ⟨hcm2, hfx⟩ := copy_step HEE.out HFW.out
    obtain ⟨_, _, ⟨nx, hnx, hnxi, _⟩, _, _, hb1, hb2⟩ := copyE_zero HEE.out
    have hcl : (copyL m x y ro pl).length = m.nodes.length + (ksL m x).length := copy_len m x y ro pl
    obtain ⟨kl, hkl2⟩ : ∃ z, (ksL m x).length = z := ⟨_, rfl⟩
    have hkl1 : 1 ≤ kl := by rw [← hkl2]; exact Nat.succ_pos _
    rw [hkl2] at hb1 hb2 hcl hcm2 hfx
    rw [HN.out] at hb1 hcl
    obtain ⟨CL, hCL⟩ : ∃ z, copyL m x y ro pl = z := ⟨_, rfl⟩
    obtain ⟨nX, hnX⟩ : ∃ z, n + kl = z := ⟨_, rfl⟩
    rw [hCL] at hcl hcm2 hfx
    rw [hnX] at hcl
    have hn1 := HCM.out.1.1.1
    obtain ⟨m0, hm0⟩ : ∃ z, m.next = z := ⟨_, rfl⟩
    have HM0 := Lib.hid hm0; have HCLE := Lib.hid hCL; have HKL := Lib.hid hkl2; have HCX := Lib.hid hcm2; have HFX := Lib.hid hfx; have HNX := Lib.hid hcl
    have HXN : Hid (∃ z ∈ m.nodes, z.id = x) := Lib.hid ⟨nx, hnx, hnxi⟩
    rw [hm0] at hb2 hn1
    have hw1 : IntKind.i64.wrap (m0 + (kl : Int)) = m0 + kl := IntWalk.i64_in _ ⟨by omega, by omega⟩
    have hw2 : IntKind.i64.wrap ((n : Int) + (kl : Int)) = nX := by rw [IntWalk.i64_in _ ⟨by omega, by omega⟩]; omega
    rw [hCL, hkl2] at HCP
    clear hcm2 hfx hnx hnxi hcl hCL hkl2 HXP HYP
    rw [hm0] at HCP MM
    (try rw [hm0])
    clear hm0
    have mc0 := (MM.out.blk 0 rfl).cell 0
    have mc1 := (MM.out.blk 0 rfl).cell 1
    have mlt := (MM.out.blk 0 rfl).lt
    simp at mc0 mc1
    go_wp2_with fail
    refine (HCP.out _ HRM.out HLRM.out).mono ?_
    rintro _ d1 ⟨⟨v, rfl, hres⟩, hb⟩
    obtain ⟨A1, c1', rfl, hrx⟩ : ∃ A1 c1, v = .tuple #[.agg #[.int .i64 (m0 + (kl : Int)), .slice A1 nX c1], .int .i64 m0, .int .i64 0] ∧ RowOf 7 ENode d1 (fun b => b < d1.heap.size) A1 CL := by
      rcases hres with ⟨e, _⟩ | ⟨_, vl, l, rfl, ho, hl⟩
      · exact absurd rfl e
      · obtain ⟨A', c', e1, _, _, h3⟩ := ho.isRow (F := fun b => b < d1.heap.size) (fun b _ h => h)
        rw [hl] at h3 e1
        subst e1
        exact ⟨A', c', by rw [HNX.out], h3⟩
    clear hres HCP
    obtain ⟨T, hT⟩ : ∃ z, d1.heap.size = z := ⟨_, rfl⟩
    have HRX : Hid (RowOf 7 ENode d1 (fun b => b < T) A1 CL) := Lib.hid (by rw [← hT]; exact hrx)
    have HLRX : Hid (T ≤ d1.heap.size) := Lib.hid (Nat.le_of_eq hT.symm)
    clear hrx hT
    clear mc0 mc1 mlt
    have MM2 : Hid (Mem w d1 ([.blk p5 24 #[.int .i64 m0, .slice A n c], .blk w.heap.size 74 #[.int .i64 ak, .int .i64 aa, .int .i64 ab, .int .i64 at2, .string wd, .string tx]])) := Lib.hid (MM.out.call hb)
    clear MM
    have MM := MM2
    clear MM2
    have HRM2 : Hid (RowOf 7 ENode d1 (fun b => b < B1) A m.nodes) := Lib.hid (HRM.out.keep ENode.stays (Keep.below hb (fun b h => Nat.lt_of_lt_of_le (h) HLRM.out)) (fun _ h => h))
    have HLRM2 : Hid (B1 ≤ d1.heap.size) := Lib.hid (Nat.le_trans HLRM.out hb.size)
    clear HRM HLRM
    have HRM := HRM2; have HLRM := HLRM2
    clear HRM2 HLRM2
    clear hb
    obtain ⟨p10, hg⟩ : ∃ x, d1.heap.size = x := ⟨_, rfl⟩
    obtain ⟨d2, hu⟩ : ∃ z9 : World, d1.alloc (.cells #[.int .i64 (m0 + (kl : Int)), .slice A1 nX c1'] 24) = z9 := ⟨_, rfl⟩
    have hb : Below d1.heap.size d1 d2 := by rw [← hu]; exact (Below.refl _ _).alloc (Nat.le_refl _) _
    have MM2 : Hid (Mem w d2 ([.blk p10 24 #[.int .i64 (m0 + (kl : Int)), .slice A1 nX c1'], .blk p5 24 #[.int .i64 m0, .slice A n c], .blk w.heap.size 74 #[.int .i64 ak, .int .i64 aa, .int .i64 ab, .int .i64 at2, .string wd, .string tx]])) := Lib.hid (by rw [← hu]; exact MM.out.allocG hg #[.int .i64 (m0 + (kl : Int)), .slice A1 nX c1'] 24)
    clear MM
    have MM := MM2
    clear MM2
    have HRM2 : Hid (RowOf 7 ENode d2 (fun b => b < B1) A m.nodes) := Lib.hid (HRM.out.keep ENode.stays (Keep.below hb (fun b h => Nat.lt_of_lt_of_le (h) HLRM.out)) (fun _ h => h))
    have HLRM2 : Hid (B1 ≤ d2.heap.size) := Lib.hid (Nat.le_trans HLRM.out hb.size)
    clear HRM HLRM
    have HRM := HRM2; have HLRM := HLRM2
    clear HRM2 HLRM2
    have HRX2 : Hid (RowOf 7 ENode d2 (fun b => b < T) A1 CL) := Lib.hid (HRX.out.keep ENode.stays (Keep.below hb (fun b h => Nat.lt_of_lt_of_le (h) HLRX.out)) (fun _ h => h))
    have HLRX2 : Hid (T ≤ d2.heap.size) := Lib.hid (Nat.le_trans HLRX.out hb.size)
    clear HRX HLRX
    have HRX := HRX2; have HLRX := HLRX2
    clear HRX2 HLRX2
    have HU9 := Lib.hid hu; have HHp10 : Hid (d1.heap.size = p10) := Lib.hid hg
    clear hb hu hg
    go_upto_region 12 with fail
    (try rw [HU9.out])
    (try rw [HHp10.out])
    (try rw [HU9.out])
    clear HU9
    have HX : Hid (∃ X : AModel, X.next = m0 + (kl : Int) ∧ X.nodes = CL) := Lib.hid ⟨⟨_, _⟩, rfl, rfl⟩
    obtain ⟨LB, hLB⟩ : ∃ z, belowL m x = z := ⟨_, rfl⟩
    obtain ⟨KS, hKS⟩ : ∃ z, ksL m x = z := ⟨_, rfl⟩
    have hLK : x :: LB = KS := by rw [← hLB, ← hKS]; rfl
    have hKl : KS.length = kl := by rw [← hKS]; exact HKL.out
    have HBE := Lib.hid (fun (w' : World) (h : RowOf 7 ENode w' (fun b => b < B1) A m.nodes) (hB : B1 ≤ w'.heap.size) => belowA_any A c m w' (fun b => b < B1) (HF1.out _ hB) h HNO.out (by rw [HN.out]; omega) x hxr)
    have hbr : belR m x = LB := by
      obtain ⟨z, hz, e⟩ := HXN.out
      rw [← e, belR_yes HCM.out hz, e]; exact hLB
    rw [hbr, HN.out, HM0.out] at HBE
    have hcb := copy_below HEE.out; have hckl := copy_kslen HEE.out
    have HCK := Lib.hid (fun (i : Nat) (hi : i < (ksL m x).length) => copy_ks HEE.out hi)
    rw [HKL.out, HCLE.out, HM0.out] at hcb hckl
    rw [HKL.out, HCLE.out, HM0.out] at HCK
    obtain ⟨KX, hKX⟩ : ∃ z, ksL ⟨m0 + (kl : Int), CL⟩ m0 = z := ⟨_, rfl⟩
    obtain ⟨LX, hLX⟩ : ∃ z, belowL ⟨m0 + (kl : Int), CL⟩ m0 = z := ⟨_, rfl⟩
    have hLKX : m0 :: LX = KX := by rw [← hKX, ← hLX]; rfl
    rw [hKX] at HCK hckl
    have hNXX := HNX.out
    have HBX := Lib.hid (fun (w' : World) (h : RowOf 7 ENode w' (fun b => b < T) A1 CL) (hB : T ≤ w'.heap.size) => belowA_any A1 c1' ⟨m0 + (kl : Int), CL⟩ w' (fun b => b < T) (fun b hb => Nat.lt_of_lt_of_le hb hB) h (node_ok (by have h := HCX.out; rw [HM0.out] at h; exact h)) (by show CL.length ≤ _; omega) m0 (by unfold InR; omega))
    have hbrx : belR ⟨m0 + (kl : Int), CL⟩ m0 = LX := by
      have hcx : CheckM ⟨m0 + (kl : Int), CL⟩ := by have h := HCX.out; rw [HM0.out] at h; exact h
      obtain ⟨yn, _, _, hmem⟩ := copy_node HEE.out (i := 0) (Nat.succ_pos _)
      rw [if_pos rfl, HCLE.out] at hmem
      have e := belR_yes hcx hmem
      have e2 : (copyN m (ksL m x) 0 yn).id = m0 := by show m.next + ((0 : Nat) : Int) = m0; rw [HM0.out]; omega
      have e3 : belR ⟨m0 + (kl : Int), CL⟩ (copyN m (ksL m x) 0 yn).id = belowL ⟨m0 + (kl : Int), CL⟩ (copyN m (ksL m x) 0 yn).id := e
      rw [e2] at e3
      rw [e3]; exact hLX
    rw [hbrx] at HBX
    have HBX2 : Hid (∀ w', RowOf 7 ENode w' (fun b => b < T) A1 CL → T ≤ w'.heap.size → Calls Try.prog 28 #[.agg #[.int .i64 (m0 + (kl : Int)), .slice A1 nX c1'], .int .i64 m0] w' fun e w2 => ∃ v, e = .returned v ∧ OwnI w2 w'.heap.size v LX ∧ Below w'.heap.size w' w2) := Lib.hid (fun w' h hB => by
      have := HBX.out w' h hB
      rw [show (⟨m0 + (kl : Int), CL⟩ : AModel).nodes.length = nX from hNXX] at this
      exact this)
    have hKlx : KX.length = kl := hckl
    have HKS := Lib.hid hKS; have HLK := Lib.hid hLK; have HKL2 := Lib.hid hKl; have HLKX := Lib.hid hLKX; have HKLX := Lib.hid hKlx; have HCB := Lib.hid hcb
    clear hLB hKS hbr hcb hckl hKX hLX hNXX HBX hbrx HX hLK hKl hLKX hKlx
    have mc0 := (MM.out.blk 1 rfl).cell 0
    have mc1 := (MM.out.blk 1 rfl).cell 1
    have mlt := (MM.out.blk 1 rfl).lt
    simp at mc0 mc1
    obtain ⟨gi, hgi⟩ : ∃ z, d2.heap.size = z := ⟨_, rfl⟩
    obtain ⟨d3, hu⟩ : ∃ z9 : World, d2.alloc (.cells #[.int .i64 x] 3) = z9 := ⟨_, rfl⟩
    have hb : Below d2.heap.size d2 d3 := by rw [← hu]; exact (Below.refl _ _).alloc (Nat.le_refl _) _
    have HGS : Hid (B1 ≤ gi ∧ T ≤ gi) := Lib.hid (by have l0 := HLRM.out; have l1 := HLRX.out; omega)
    have MM2 : Hid (Mem w d3 ([.row 3 1 (.slice (some ⟨gi, 0, none⟩) 1 1) 1 [.int .i64 x], .blk p10 24 #[.int .i64 (m0 + (kl : Int)), .slice A1 nX c1'], .blk p5 24 #[.int .i64 m0, .slice A n c], .blk w.heap.size 74 #[.int .i64 ak, .int .i64 aa, .int .i64 ab, .int .i64 at2, .string wd, .string tx]])) := Lib.hid (by rw [← hu]; exact MM.out.allocI hgi x)
    clear MM
    have MM := MM2
    clear MM2
    have HRM2 : Hid (RowOf 7 ENode d3 (fun b => b < B1) A m.nodes) := Lib.hid (HRM.out.keep ENode.stays (Keep.below hb (fun b h => Nat.lt_of_lt_of_le (h) HLRM.out)) (fun _ h => h))
    have HLRM2 : Hid (B1 ≤ d3.heap.size) := Lib.hid (Nat.le_trans HLRM.out hb.size)
    clear HRM HLRM
    have HRM := HRM2; have HLRM := HLRM2
    clear HRM2 HLRM2
    have HRX2 : Hid (RowOf 7 ENode d3 (fun b => b < T) A1 CL) := Lib.hid (HRX.out.keep ENode.stays (Keep.below hb (fun b h => Nat.lt_of_lt_of_le (h) HLRX.out)) (fun _ h => h))
    have HLRX2 : Hid (T ≤ d3.heap.size) := Lib.hid (Nat.le_trans HLRX.out hb.size)
    clear HRX HLRX
    have HRX := HRX2; have HLRX := HLRX2
    clear HRX2 HLRX2
    have HU := Lib.hid hu; have HGI := Lib.hid hgi
    clear hb hu hgi
    go_wp2_with fail
    rw [HU.out]
    try rw [HGI.out]
    clear HU
    refine (HBE.out _ HRM.out HLRM.out).mono ?_
    rintro _ d4 ⟨vl, rfl, hown, hb⟩
    obtain ⟨Al, cl, rfl⟩ := hown.shape
    have HLR : Hid (RowOf 1 EInt d4 (fun b => b < d4.heap.size) Al LB) := Lib.hid (by
      obtain ⟨A', c', e, _, _, h3⟩ := hown.isRow (F := fun b => b < d4.heap.size) (fun b _ h => h)
      injection e with e1; subst e1; exact h3)
    clear hown HGI
    clear mc0 mc1 mlt
    have MM2 : Hid (Mem w d4 ([.row 3 1 (.slice (some ⟨gi, 0, none⟩) 1 1) 1 [.int .i64 x], .blk p10 24 #[.int .i64 (m0 + (kl : Int)), .slice A1 nX c1'], .blk p5 24 #[.int .i64 m0, .slice A n c], .blk w.heap.size 74 #[.int .i64 ak, .int .i64 aa, .int .i64 ab, .int .i64 at2, .string wd, .string tx]])) := Lib.hid (MM.out.call hb)
    clear MM
    have MM := MM2
    clear MM2
    have HRM2 : Hid (RowOf 7 ENode d4 (fun b => b < B1) A m.nodes) := Lib.hid (HRM.out.keep ENode.stays (Keep.below hb (fun b h => Nat.lt_of_lt_of_le (h) HLRM.out)) (fun _ h => h))
    have HLRM2 : Hid (B1 ≤ d4.heap.size) := Lib.hid (Nat.le_trans HLRM.out hb.size)
    clear HRM HLRM
    have HRM := HRM2; have HLRM := HLRM2
    clear HRM2 HLRM2
    have HRX2 : Hid (RowOf 7 ENode d4 (fun b => b < T) A1 CL) := Lib.hid (HRX.out.keep ENode.stays (Keep.below hb (fun b h => Nat.lt_of_lt_of_le (h) HLRX.out)) (fun _ h => h))
    have HLRX2 : Hid (T ≤ d4.heap.size) := Lib.hid (Nat.le_trans HLRX.out hb.size)
    clear HRX HLRX
    have HRX := HRX2; have HLRX := HLRX2
    clear HRX2 HLRX2
    clear hb
    have HOA : Hid (OwnI d4 w.heap.size (.slice (some ⟨gi, 0, none⟩) 1 1) [x]) := Lib.hid (MM.out.row 0 rfl)
    have hs4 := MM.out.size
    have HLBL : Hid (LB.length + 1 = kl) := Lib.hid (by rw [← HKL2.out, ← HLK.out]; rfl)
    have hlb : LB.length ≤ 4097 := by have := HLBL.out; omega
    go_wp2_with (at_builtin; refine wpList_joinI rfl (.tmp 71) (.tmp 74) rfl ?a1 HOA.out Al cl LB _ ?a2 HLR.out ?a4 ?a5 ?a6)
    case a1 => rfl
    case a2 => rfl
    case a4 => simp; omega
    case a5 => exact hs4
    case a6 =>
      intro A3 c3 d5 own3 hg3 hat3
      have hkl9 : [x].length + LB.length = kl := by have := HLBL.out; simp; omega
      have hmg := MM.out.grow (n' := ([x] ++ LB).length) (v' := .slice A3 ([x].length + LB.length) c3) (xs' := (([x] ++ LB).map (Value.int .i64))) 0 rfl hg3 hat3 own3
      rw [hkl9, show [x] ++ LB = KS from HLK.out, HKL2.out] at hmg
      simp only [List.length_cons, List.length_nil, Nat.zero_add] at hkl9 own3 ⊢
      rw [hkl9] at own3 ⊢
      obtain ⟨ga, capk, ek, _, _, _, _⟩ := own_some (show d5.ownsRow _ _ _ _ kl _ from hmg.row 0 rfl) (by omega)
      injection ek with ek1 ek2 ek3
      subst ek1
      clear ek2 ek3
      obtain ⟨ca, hck⟩ : ∃ z, c3 = z := ⟨_, rfl⟩
      rw [hck] at hmg own3 ⊢
      clear hck
      have HRM2 : Hid (RowOf 7 ENode d5 (fun b => b < B1) A m.nodes) := Lib.hid (HRM.out.keep ENode.stays (Keep.grown hg3 (fun b h => ⟨Nat.lt_of_lt_of_le (h) HLRM.out, fun e => by
          have e9 : gi = b := by injection e
          have h9 := HGS.out
          have h8 : b < B1 := h
          omega⟩)) (fun _ h => h))
      have HLRM2 : Hid (B1 ≤ d5.heap.size) := Lib.hid (Nat.le_trans HLRM.out hg3.size)
      clear HRM HLRM
      have HRM := HRM2; have HLRM := HLRM2
      clear HRM2 HLRM2
      have HRX2 : Hid (RowOf 7 ENode d5 (fun b => b < T) A1 CL) := Lib.hid (HRX.out.keep ENode.stays (Keep.grown hg3 (fun b h => ⟨Nat.lt_of_lt_of_le (h) HLRX.out, fun e => by
          have e9 : gi = b := by injection e
          have h9 := HGS.out
          have h8 : b < T := h
          omega⟩)) (fun _ h => h))
      have HLRX2 : Hid (T ≤ d5.heap.size) := Lib.hid (Nat.le_trans HLRX.out hg3.size)
      clear HRX HLRX
      have HRX := HRX2; have HLRX := HLRX2
      clear HRX2 HLRX2
      have MM2 : Hid (Mem w d5 ([.row 3 1 (.slice (some ⟨ga, 0, none⟩) kl ca) kl (KS.map (Value.int .i64)), .blk p10 24 #[.int .i64 (m0 + (kl : Int)), .slice A1 nX c1'], .blk p5 24 #[.int .i64 m0, .slice A n c], .blk w.heap.size 74 #[.int .i64 ak, .int .i64 aa, .int .i64 ab, .int .i64 at2, .string wd, .string tx]])) := Lib.hid (hmg)
      clear MM
      have MM := MM2
      clear MM2
      clear hmg own3 hg3 hat3 HOA HLR hs4 hlb hkl9 HGS HLBL
      go_upto_region 13 with fail
      have zc0 := (MM.out.blk 1 rfl).cell 0
      have zc1 := (MM.out.blk 1 rfl).cell 1
      have zlt := (MM.out.blk 1 rfl).lt
      simp at zc0 zc1
      obtain ⟨gi, hgi⟩ : ∃ z, d5.heap.size = z := ⟨_, rfl⟩
      obtain ⟨d6, hu⟩ : ∃ z9 : World, d5.alloc (.cells #[.int .i64 m0] 3) = z9 := ⟨_, rfl⟩
      have hb : Below d5.heap.size d5 d6 := by rw [← hu]; exact (Below.refl _ _).alloc (Nat.le_refl _) _
      have HGS : Hid (B1 ≤ gi ∧ T ≤ gi) := Lib.hid (by have l0 := HLRM.out; have l1 := HLRX.out; omega)
      have MM2 : Hid (Mem w d6 ([.row 3 1 (.slice (some ⟨gi, 0, none⟩) 1 1) 1 [.int .i64 m0], .row 3 1 (.slice (some ⟨ga, 0, none⟩) kl ca) kl (KS.map (Value.int .i64)), .blk p10 24 #[.int .i64 (m0 + (kl : Int)), .slice A1 nX c1'], .blk p5 24 #[.int .i64 m0, .slice A n c], .blk w.heap.size 74 #[.int .i64 ak, .int .i64 aa, .int .i64 ab, .int .i64 at2, .string wd, .string tx]])) := Lib.hid (by rw [← hu]; exact MM.out.allocI hgi m0)
      clear MM
      have MM := MM2
      clear MM2
      have HRM2 : Hid (RowOf 7 ENode d6 (fun b => b < B1) A m.nodes) := Lib.hid (HRM.out.keep ENode.stays (Keep.below hb (fun b h => Nat.lt_of_lt_of_le (h) HLRM.out)) (fun _ h => h))
      have HLRM2 : Hid (B1 ≤ d6.heap.size) := Lib.hid (Nat.le_trans HLRM.out hb.size)
      clear HRM HLRM
      have HRM := HRM2; have HLRM := HLRM2
      clear HRM2 HLRM2
      have HRX2 : Hid (RowOf 7 ENode d6 (fun b => b < T) A1 CL) := Lib.hid (HRX.out.keep ENode.stays (Keep.below hb (fun b h => Nat.lt_of_lt_of_le (h) HLRX.out)) (fun _ h => h))
      have HLRX2 : Hid (T ≤ d6.heap.size) := Lib.hid (Nat.le_trans HLRX.out hb.size)
      clear HRX HLRX
      have HRX := HRX2; have HLRX := HLRX2
      clear HRX2 HLRX2
      have HU := Lib.hid hu; have HGI := Lib.hid hgi
      clear hb hu hgi
      go_wp2_with fail
      rw [HU.out]
      try rw [HGI.out]
      clear HU
      refine (HBX2.out _ HRX.out HLRX.out).mono ?_
      rintro _ d7 ⟨vl, rfl, hown, hb⟩
      obtain ⟨Al, cl, rfl⟩ := hown.shape
      have HLR : Hid (RowOf 1 EInt d7 (fun b => b < d7.heap.size) Al LX) := Lib.hid (by
        obtain ⟨A', c', e, _, _, h3⟩ := hown.isRow (F := fun b => b < d7.heap.size) (fun b _ h => h)
        injection e with e1; subst e1; exact h3)
      clear hown HGI
      clear zc0 zc1 zlt
      have MM2 : Hid (Mem w d7 ([.row 3 1 (.slice (some ⟨gi, 0, none⟩) 1 1) 1 [.int .i64 m0], .row 3 1 (.slice (some ⟨ga, 0, none⟩) kl ca) kl (KS.map (Value.int .i64)), .blk p10 24 #[.int .i64 (m0 + (kl : Int)), .slice A1 nX c1'], .blk p5 24 #[.int .i64 m0, .slice A n c], .blk w.heap.size 74 #[.int .i64 ak, .int .i64 aa, .int .i64 ab, .int .i64 at2, .string wd, .string tx]])) := Lib.hid (MM.out.call hb)
      clear MM
      have MM := MM2
      clear MM2
      have HRM2 : Hid (RowOf 7 ENode d7 (fun b => b < B1) A m.nodes) := Lib.hid (HRM.out.keep ENode.stays (Keep.below hb (fun b h => Nat.lt_of_lt_of_le (h) HLRM.out)) (fun _ h => h))
      have HLRM2 : Hid (B1 ≤ d7.heap.size) := Lib.hid (Nat.le_trans HLRM.out hb.size)
      clear HRM HLRM
      have HRM := HRM2; have HLRM := HLRM2
      clear HRM2 HLRM2
      have HRX2 : Hid (RowOf 7 ENode d7 (fun b => b < T) A1 CL) := Lib.hid (HRX.out.keep ENode.stays (Keep.below hb (fun b h => Nat.lt_of_lt_of_le (h) HLRX.out)) (fun _ h => h))
      have HLRX2 : Hid (T ≤ d7.heap.size) := Lib.hid (Nat.le_trans HLRX.out hb.size)
      clear HRX HLRX
      have HRX := HRX2; have HLRX := HLRX2
      clear HRX2 HLRX2
      clear hb
      have HOA : Hid (OwnI d7 w.heap.size (.slice (some ⟨gi, 0, none⟩) 1 1) [m0]) := Lib.hid (MM.out.row 0 rfl)
      have hs4 := MM.out.size
      have HLBL : Hid (LX.length + 1 = kl) := Lib.hid (by rw [← HKLX.out, ← HLKX.out]; rfl)
      have hlb : LX.length ≤ 4097 := by have := HLBL.out; omega
      go_wp2_with (at_builtin; refine wpList_joinI rfl (.tmp 77) (.tmp 80) rfl ?a1 HOA.out Al cl LX _ ?a2 HLR.out ?a4 ?a5 ?a6)
      case a1 => rfl
      case a2 => rfl
      case a4 => simp; omega
      case a5 => exact hs4
      case a6 =>
        intro A3 c3 d8 own3 hg3 hat3
        have hkl9 : [m0].length + LX.length = kl := by have := HLBL.out; simp; omega
        have hmg := MM.out.grow (n' := ([m0] ++ LX).length) (v' := .slice A3 ([m0].length + LX.length) c3) (xs' := (([m0] ++ LX).map (Value.int .i64))) 0 rfl hg3 hat3 own3
        rw [hkl9, show [m0] ++ LX = KX from HLKX.out, HKLX.out] at hmg
        simp only [List.length_cons, List.length_nil, Nat.zero_add] at hkl9 own3 ⊢
        rw [hkl9] at own3 ⊢
        obtain ⟨gb, capk, ek, _, _, _, _⟩ := own_some (show d8.ownsRow _ _ _ _ kl _ from hmg.row 0 rfl) (by omega)
        injection ek with ek1 ek2 ek3
        subst ek1
        clear ek2 ek3
        obtain ⟨cb, hck⟩ : ∃ z, c3 = z := ⟨_, rfl⟩
        rw [hck] at hmg own3 ⊢
        clear hck
        have HRM2 : Hid (RowOf 7 ENode d8 (fun b => b < B1) A m.nodes) := Lib.hid (HRM.out.keep ENode.stays (Keep.grown hg3 (fun b h => ⟨Nat.lt_of_lt_of_le (h) HLRM.out, fun e => by
            have e9 : gi = b := by injection e
            have h9 := HGS.out
            have h8 : b < B1 := h
            omega⟩)) (fun _ h => h))
        have HLRM2 : Hid (B1 ≤ d8.heap.size) := Lib.hid (Nat.le_trans HLRM.out hg3.size)
        clear HRM HLRM
        have HRM := HRM2; have HLRM := HLRM2
        clear HRM2 HLRM2
        have HRX2 : Hid (RowOf 7 ENode d8 (fun b => b < T) A1 CL) := Lib.hid (HRX.out.keep ENode.stays (Keep.grown hg3 (fun b h => ⟨Nat.lt_of_lt_of_le (h) HLRX.out, fun e => by
            have e9 : gi = b := by injection e
            have h9 := HGS.out
            have h8 : b < T := h
            omega⟩)) (fun _ h => h))
        have HLRX2 : Hid (T ≤ d8.heap.size) := Lib.hid (Nat.le_trans HLRX.out hg3.size)
        clear HRX HLRX
        have HRX := HRX2; have HLRX := HLRX2
        clear HRX2 HLRX2
        have MM2 : Hid (Mem w d8 ([.row 3 1 (.slice (some ⟨gb, 0, none⟩) kl cb) kl (KX.map (Value.int .i64)), .row 3 1 (.slice (some ⟨ga, 0, none⟩) kl ca) kl (KS.map (Value.int .i64)), .blk p10 24 #[.int .i64 (m0 + (kl : Int)), .slice A1 nX c1'], .blk p5 24 #[.int .i64 m0, .slice A n c], .blk w.heap.size 74 #[.int .i64 ak, .int .i64 aa, .int .i64 ab, .int .i64 at2, .string wd, .string tx]])) := Lib.hid (hmg)
        clear MM
        have MM := MM2
        clear MM2
        clear hmg own3 hg3 hat3 HOA HLR hs4 hlb hkl9 HGS HLBL
        have zc0 := (MM.out.blk 2 rfl).cell 0
        have zc1 := (MM.out.blk 2 rfl).cell 1
        have zlt := (MM.out.blk 2 rfl).lt
        simp at zc0 zc1
        have mc0 := (MM.out.blk 3 rfl).cell 0
        have mc1 := (MM.out.blk 3 rfl).cell 1
        have mlt := (MM.out.blk 3 rfl).lt
        simp at mc0 mc1
        clear HBE HBX2
        go_upto_region 17 with fail
        clear zc0 zc1 zlt mc0 mc1 mlt
        have HMW : Hid (∀ V, Below d8.heap.size d8 V → Mem w V [.row 3 1 (.slice (some ⟨gb, 0, none⟩) kl cb) kl (KX.map (Value.int .i64)), .row 3 1 (.slice (some ⟨ga, 0, none⟩) kl ca) kl (KS.map (Value.int .i64)), .blk p10 24 #[.int .i64 (m0 + (kl : Int)), .slice A1 nX c1'], .blk p5 24 #[.int .i64 m0, .slice A n c], .blk w.heap.size 74 #[.int .i64 ak, .int .i64 aa, .int .i64 ab, .int .i64 at2, .string wd, .string tx]]) := Lib.hid (fun V hb => MM.out.call hb)
        have HRMW : Hid (∀ V, Below d8.heap.size d8 V → RowOf 7 ENode V (fun b => b < B1) A m.nodes ∧ B1 ≤ V.heap.size) := Lib.hid (fun V hb => ⟨HRM.out.keep ENode.stays (Keep.below hb (fun b h => Nat.lt_of_lt_of_le h HLRM.out)) (fun _ h => h), Nat.le_trans HLRM.out hb.size⟩)
        have HRXW : Hid (∀ V, Below d8.heap.size d8 V → RowOf 7 ENode V (fun b => b < T) A1 CL ∧ T ≤ V.heap.size) := Lib.hid (fun V hb => ⟨HRX.out.keep ENode.stays (Keep.below hb (fun b h => Nat.lt_of_lt_of_le h HLRX.out)) (fun _ h => h), Nat.le_trans HLRX.out hb.size⟩)
        have HCX2 : Hid (CheckM ⟨m0 + (kl : Int), CL⟩) := Lib.hid (by have h := HCX.out; rw [HM0.out] at h; exact h)
        have HFX2 : Hid (Few 151 ⟨m0 + (kl : Int), CL⟩) := Lib.hid (by have h := HFX.out; rw [HM0.out] at h; exact h)
        have HP5W : Hid (∀ V, Below d8.heap.size d8 V → V.cell? ⟨p5, 0, none⟩ = some (.int .i64 m0) ∧ V.cell? ⟨p5, 1, none⟩ = some (.slice A n c)) := Lib.hid (fun V hb => by
          have h := (HMW.out V hb).blk 3 rfl
          have a := h.cell 0; have b := h.cell 1
          simp at a b
          exact ⟨a, b⟩)
        have HP10W : Hid (∀ V, Below d8.heap.size d8 V → V.cell? ⟨p10, 0, none⟩ = some (.int .i64 (m0 + (kl : Int))) ∧ V.cell? ⟨p10, 1, none⟩ = some (.slice A1 nX c1')) := Lib.hid (fun V hb => by
          have h := (HMW.out V hb).blk 2 rfl
          have a := h.cell 0; have b := h.cell 1
          simp at a b
          exact ⟨a, b⟩)
        have HMEM := MM
        clear MM HCX HFX HRM HLRM HRX HLRX
        go_loopg [15] kl (fun n s15 wx => ∃ i : Nat, s15 = .int .i64 i ∧ n = kl - i ∧ i ≤ kl ∧ Below d8.heap.size d8 wx)
        case atStart => exact ⟨0, rfl, rfl, Nat.zero_le _, Below.refl _ _⟩
        case round => as_aux_lemma =>
          obtain ⟨i, rfl, rfl, hik, hbr⟩ := hrel
          have HBR := Lib.hid hbr
          clear hbr
          have hi0 : (0 : Int) ≤ i := by omega
          by_cases hi : i < kl
          rotate_left 1
          · as_aux_lemma =>
            have hi' : ¬ (i : Int) < kl := by omega
            have MM : Hid (Mem w wr [.row 3 1 (.slice (some ⟨gb, 0, none⟩) kl cb) kl (KX.map (Value.int .i64)), .row 3 1 (.slice (some ⟨ga, 0, none⟩) kl ca) kl (KS.map (Value.int .i64)), .blk p10 24 #[.int .i64 (m0 + (kl : Int)), .slice A1 nX c1'], .blk p5 24 #[.int .i64 m0, .slice A n c], .blk w.heap.size 74 #[.int .i64 ak, .int .i64 aa, .int .i64 ab, .int .i64 at2, .string wd, .string tx]]) := Lib.hid (HMW.out _ HBR.out)
            have HRME := Lib.hid (HRMW.out _ HBR.out); have HRXE := Lib.hid (HRXW.out _ HBR.out)
            obtain ⟨hre, hrl⟩ := copy_removed HEE.out
            rw [HKL.out, HCLE.out, HM0.out] at hre hrl
            have HRM9 := Lib.hid (removeA_any A1 c1' ⟨m0 + (kl : Int), CL⟩ wr (fun b => b < T) (fun b h => Nat.lt_of_lt_of_le h HRXE.out.2) HRXE.out.1 (node_ok HCX2.out) (lens_few HCX2.out HFX2.out (by omega)) (by show CL.length ≤ _; rw [HNX.out]; omega) m0 (by unfold InR; omega))
            rw [hre, hrl, show (⟨m0 + (kl : Int), CL⟩ : AModel).nodes.length = nX from HNX.out] at HRM9
            clear hre hrl
            have xc0 := (MM.out.blk 2 rfl).cell 0
            have xc1 := (MM.out.blk 2 rfl).cell 1
            have xlt := (MM.out.blk 2 rfl).lt
            simp at xc0 xc1
            go_wp2_with fail
            refine HRM9.out.mono ?_
            rintro _ e1 ⟨⟨v, rfl, hres⟩, hb⟩
            obtain ⟨Ay, cy, rfl, hry⟩ : ∃ Ay cy, v = .tuple #[.agg #[.int .i64 (m0 + (kl : Int)), .slice Ay n cy], .int .i64 0] ∧ RowOf 7 ENode e1 (fun b => b < e1.heap.size) Ay m.nodes := by
              rcases hres with ⟨e, _⟩ | ⟨_, vl, l, rfl, ho, hl⟩
              · exact absurd rfl e
              · obtain ⟨A', c', e1, _, _, h3⟩ := ho.isRow (F := fun b => b < e1.heap.size) (fun b _ h => h)
                rw [hl] at h3 e1
                subst e1
                exact ⟨A', c', by rw [HN.out], h3⟩
            clear hres HRM9
            obtain ⟨T3, hT3⟩ : ∃ z, e1.heap.size = z := ⟨_, rfl⟩
            have HRY : Hid (RowOf 7 ENode e1 (fun b => b < T3) Ay m.nodes) := Lib.hid (by rw [← hT3]; exact hry)
            have HLRY : Hid (T3 ≤ e1.heap.size) := Lib.hid (Nat.le_of_eq hT3.symm)
            have HRM : Hid (RowOf 7 ENode e1 (fun b => b < B1) A m.nodes) := Lib.hid (HRME.out.1.keep ENode.stays (Keep.below hb (fun b h => Nat.lt_of_lt_of_le h HRME.out.2)) (fun _ h => h))
            have HLRM : Hid (B1 ≤ e1.heap.size) := Lib.hid (Nat.le_trans HRME.out.2 hb.size)
            clear hry hT3 HRME HRXE
            clear xc0 xc1 xlt
            have MM2 : Hid (Mem w e1 ([.row 3 1 (.slice (some ⟨gb, 0, none⟩) kl cb) kl (KX.map (Value.int .i64)), .row 3 1 (.slice (some ⟨ga, 0, none⟩) kl ca) kl (KS.map (Value.int .i64)), .blk p10 24 #[.int .i64 (m0 + (kl : Int)), .slice A1 nX c1'], .blk p5 24 #[.int .i64 m0, .slice A n c], .blk w.heap.size 74 #[.int .i64 ak, .int .i64 aa, .int .i64 ab, .int .i64 at2, .string wd, .string tx]])) := Lib.hid (MM.out.call hb)
            clear MM
            have MM := MM2
            clear MM2
            clear hb
            have HPE1 : Hid (B1 ≤ e1.heap.size ∧ T3 ≤ e1.heap.size) := Lib.hid ⟨HLRM.out, HLRY.out⟩
            obtain ⟨p23, hg⟩ : ∃ x, e1.heap.size = x := ⟨_, rfl⟩
            obtain ⟨e2, hu⟩ : ∃ z9 : World, e1.alloc (.cells #[.int .i64 (m0 + (kl : Int)), .slice Ay n cy] 24) = z9 := ⟨_, rfl⟩
            have hb : Below e1.heap.size e1 e2 := by rw [← hu]; exact (Below.refl _ _).alloc (Nat.le_refl _) _
            have MM2 : Hid (Mem w e2 ([.blk p23 24 #[.int .i64 (m0 + (kl : Int)), .slice Ay n cy], .row 3 1 (.slice (some ⟨gb, 0, none⟩) kl cb) kl (KX.map (Value.int .i64)), .row 3 1 (.slice (some ⟨ga, 0, none⟩) kl ca) kl (KS.map (Value.int .i64)), .blk p10 24 #[.int .i64 (m0 + (kl : Int)), .slice A1 nX c1'], .blk p5 24 #[.int .i64 m0, .slice A n c], .blk w.heap.size 74 #[.int .i64 ak, .int .i64 aa, .int .i64 ab, .int .i64 at2, .string wd, .string tx]])) := Lib.hid (by rw [← hu]; exact MM.out.allocG hg #[.int .i64 (m0 + (kl : Int)), .slice Ay n cy] 24)
            clear MM
            have MM := MM2
            clear MM2
            have HRY2 : Hid (RowOf 7 ENode e2 (fun b => b < T3) Ay m.nodes) := Lib.hid (HRY.out.keep ENode.stays (Keep.below hb (fun b h => Nat.lt_of_lt_of_le (h) HLRY.out)) (fun _ h => h))
            have HLRY2 : Hid (T3 ≤ e2.heap.size) := Lib.hid (Nat.le_trans HLRY.out hb.size)
            clear HRY HLRY
            have HRY := HRY2; have HLRY := HLRY2
            clear HRY2 HLRY2
            have HRM2 : Hid (RowOf 7 ENode e2 (fun b => b < B1) A m.nodes) := Lib.hid (HRM.out.keep ENode.stays (Keep.below hb (fun b h => Nat.lt_of_lt_of_le (h) HLRM.out)) (fun _ h => h))
            have HLRM2 : Hid (B1 ≤ e2.heap.size) := Lib.hid (Nat.le_trans HLRM.out hb.size)
            clear HRM HLRM
            have HRM := HRM2; have HLRM := HLRM2
            clear HRM2 HLRM2
            have HU9 := Lib.hid hu; have HHp23 : Hid (e1.heap.size = p23) := Lib.hid hg
            clear hb hu hg
            have HPBE : Hid (B1 ≤ p23 ∧ T3 ≤ p23) := Lib.hid (by have h1 := HHp23.out; have h2 := HPE1.out; omega)
            go_upto_region 35 with fail
            (try rw [HU9.out])
            (try rw [HHp23.out])
            (try rw [HU9.out])
            clear HU9
            have mc0 := (MM.out.blk 4 rfl).cell 0
            have mlt := (MM.out.blk 4 rfl).lt
            simp at mc0
            have yc0 := (MM.out.blk 0 rfl).cell 0
            have yf0 := (MM.out.blk 0 rfl).frozen 0
            have ylt := (MM.out.blk 0 rfl).lt
            simp at yc0
            go_upto_region 36 with fail
            clear mc0 mlt yf0 yc0 ylt
            obtain ⟨e3, hu⟩ : ∃ z9 : World, e2.setCell ⟨p23, 0, none⟩ (.int .i64 m0) = z9 := ⟨_, rfl⟩
            have HPB : Hid (B1 ≤ p23 ∧ T3 ≤ p23) := Lib.hid (by have h1 := HHp23.out; have := HPBE.out; omega)
            have hsz : e3.heap.size = e2.heap.size := by rw [← hu]; simp
            have HRY2 : Hid (RowOf 7 ENode e3 (fun b => b < T3) Ay m.nodes) := Lib.hid (by rw [← hu]; exact HRY.out.keep ENode.stays (keep_set _ ⟨p23, 0, none⟩ _ (fun b hb => by have h9 := HPB.out; show b ≠ p23; have h8 : b < T3 := hb; omega)) (fun _ h => h))
            have HLRY2 : Hid (T3 ≤ e3.heap.size) := Lib.hid (by rw [hsz]; exact HLRY.out)
            clear HRY HLRY
            have HRY := HRY2; have HLRY := HLRY2
            clear HRY2 HLRY2
            have HRM2 : Hid (RowOf 7 ENode e3 (fun b => b < B1) A m.nodes) := Lib.hid (by rw [← hu]; exact HRM.out.keep ENode.stays (keep_set _ ⟨p23, 0, none⟩ _ (fun b hb => by have h9 := HPB.out; show b ≠ p23; have h8 : b < B1 := hb; omega)) (fun _ h => h))
            have HLRM2 : Hid (B1 ≤ e3.heap.size) := Lib.hid (by rw [hsz]; exact HLRM.out)
            clear HRM HLRM
            have HRM := HRM2; have HLRM := HLRM2
            clear HRM2 HLRM2
            have MM2 : Hid (Mem w e3 ([.blk p23 24 #[.int .i64 m0, .slice Ay n cy], .row 3 1 (.slice (some ⟨gb, 0, none⟩) kl cb) kl (KX.map (Value.int .i64)), .row 3 1 (.slice (some ⟨ga, 0, none⟩) kl ca) kl (KS.map (Value.int .i64)), .blk p10 24 #[.int .i64 (m0 + (kl : Int)), .slice A1 nX c1'], .blk p5 24 #[.int .i64 m0, .slice A n c], .blk w.heap.size 74 #[.int .i64 ak, .int .i64 aa, .int .i64 ab, .int .i64 at2, .string wd, .string tx]])) := Lib.hid (by rw [← hu]; exact MM.out.set_ 0 rfl 0 _)
            clear MM
            have MM := MM2
            clear MM2
            (try rw [hu])
            clear hu hsz
            have yc0 := (MM.out.blk 0 rfl).cell 0
            have yc1 := (MM.out.blk 0 rfl).cell 1
            have ylt := (MM.out.blk 0 rfl).lt
            simp at yc0 yc1
            have mc0 := (MM.out.blk 4 rfl).cell 0
            have mc1 := (MM.out.blk 4 rfl).cell 1
            have mlt := (MM.out.blk 4 rfl).lt
            simp at mc0 mc1
            have HSA := Lib.hid (res_is (eqB_yes (rfl : m = m)) (same_any Ay A cy c m m e3 (fun b => b < T3) (fun b => b < B1) (fun b h => Nat.lt_of_lt_of_le h HLRY.out) (fun b h => Nat.lt_of_lt_of_le h HLRM.out) HRY.out HRM.out (by rw [HN.out]; omega)))
            rw [HN.out, HM0.out] at HSA
            go_wp2_with fail
            refine HSA.out.mono ?_
            rintro _ e4 ⟨rfl, hb⟩
            clear HSA
            clear yc0 yc1 ylt mc0 mc1 mlt
            have MM2 : Hid (Mem w e4 ([.blk p23 24 #[.int .i64 m0, .slice Ay n cy], .row 3 1 (.slice (some ⟨gb, 0, none⟩) kl cb) kl (KX.map (Value.int .i64)), .row 3 1 (.slice (some ⟨ga, 0, none⟩) kl ca) kl (KS.map (Value.int .i64)), .blk p10 24 #[.int .i64 (m0 + (kl : Int)), .slice A1 nX c1'], .blk p5 24 #[.int .i64 m0, .slice A n c], .blk w.heap.size 74 #[.int .i64 ak, .int .i64 aa, .int .i64 ab, .int .i64 at2, .string wd, .string tx]])) := Lib.hid (MM.out.call hb)
            clear MM
            have MM := MM2
            clear MM2
            clear hb
            go_wp2
            go_ret
            exact ⟨by simp, MM.out.below⟩
          have hi' : (i : Int) < kl := by omega
          have hik2 : i < (ksL m x).length := by rw [HKL.out]; exact hi
          obtain ⟨zn, hzn, hzi, hmem⟩ := copy_node HEE.out hik2
          rw [HCLE.out] at hmem
          have hzi2 : KS[i]'(by rw [HKL2.out]; exact hi) = zn.id := by rw [hzi]; congr 1; exact HKS.out.symm
          obtain ⟨hkx, hkx2⟩ := HCK.out i (by exact hi)
          have HZN := Lib.hid hzn; have HZI := Lib.hid hzi2
          obtain ⟨di, hdi⟩ : ∃ z, zn.id = z := ⟨_, rfl⟩
          rw [hdi] at hzi2
          have HDI := Lib.hid hdi
          have hdr : InR di := by
            obtain ⟨j, hj, e⟩ := List.getElem_of_mem hzn
            have h1 := HCM.out.1.2 j hj
            have h2 := HCM.out.1.1.2.1
            rw [e, hdi] at h1; unfold InR; omega
          have HA0 : Hid (∀ V, Below d8.heap.size d8 V → V.cell? ⟨ga, i, none⟩ = some (.int .i64 di)) := Lib.hid (fun V hb => by
            have h := (HMW.out V hb).row 1 rfl
            rw [own_cell h i (by omega), List.getElem?_map, List.getElem?_eq_getElem (by rw [HKL2.out]; exact hi), hzi2]; rfl)
          have HB0 : Hid (∀ V, Below d8.heap.size d8 V → V.cell? ⟨gb, i, none⟩ = some (.int .i64 (m0 + (i : Int)))) := Lib.hid (fun V hb => by
            have h := (HMW.out V hb).row 0 rfl
            rw [own_cell h i (by omega), List.getElem?_map, List.getElem?_eq_getElem (by rw [HKLX.out]; exact hi), hkx2]; rfl)
          obtain ⟨qn, hqn⟩ : ∃ q : ANode, q = (if i = 0 then { copyN m (ksL m x) 0 zn with parent := y, role := ro } else copyN m (ksL m x) i zn) := ⟨_, rfl⟩
          rw [← hqn] at hmem
          obtain ⟨xc, hxc⟩ : ∃ z, zn.concept = z := ⟨_, rfl⟩
          obtain ⟨xr, hxr2⟩ : ∃ z, zn.role = z := ⟨_, rfl⟩
          obtain ⟨pv, hpv⟩ : ∃ z, zn.parent = z := ⟨_, rfl⟩
          obtain ⟨np, hnp⟩ : ∃ z, zn.props.length = z := ⟨_, rfl⟩
          obtain ⟨nk, hnk⟩ : ∃ z, zn.kids.length = z := ⟨_, rfl⟩
          obtain ⟨nr, hnr⟩ : ∃ z, zn.refs.length = z := ⟨_, rfl⟩
          obtain ⟨pq, hpq⟩ : ∃ z, qn.parent = z := ⟨_, rfl⟩
          obtain ⟨rq, hrq⟩ : ∃ z, qn.role = z := ⟨_, rfl⟩
          have hqi : qn.id = m0 + (i : Int) := by
            rw [hqn, ← HM0.out]
            by_cases h0 : i = 0
            · subst h0; rw [if_pos rfl]; rfl
            · rw [if_neg h0]; rfl
          have hqc : qn.concept = xc := by rw [hqn, ← hxc]; by_cases h0 : i = 0; · rw [if_pos h0]; rfl
                                           · rw [if_neg h0]; rfl
          have hqp : qn.props.length = np := by rw [hqn, ← hnp]; by_cases h0 : i = 0; · rw [if_pos h0]; rfl
                                                · rw [if_neg h0]; rfl
          have hqk : qn.kids.length = nk := by rw [hqn, ← hnk]; by_cases h0 : i = 0; · rw [if_pos h0]; exact List.length_map _
                                               · rw [if_neg h0]; exact List.length_map _
          have hqr : qn.refs = zn.refs.map (refTo m0 KS) := by rw [hqn, ← HM0.out, ← HKS.out]; by_cases h0 : i = 0; · rw [if_pos h0]; rfl
                                                               · rw [if_neg h0]; rfl
          have HQ0 : Hid (i = 0 → pq = y ∧ rq = ro) := Lib.hid (fun h0 => by rw [← hpq, ← hrq, hqn, if_pos h0]; exact ⟨rfl, rfl⟩)
          have HQ1 : Hid (i ≠ 0 → rq = xr) := Lib.hid (fun h0 => by rw [← hrq, hqn, if_neg h0, ← hxr2]; rfl)
          have HFP : Hid (∀ V, Below d8.heap.size d8 V → Calls Try.prog 22 #[.agg #[.int .i64 m0, .slice A n c], .int .i64 di] V fun e w2 => (∃ v, e = .returned v ∧ NodeGot V w2 di xc pv xr np nk zn.refs v) ∧ Below V.heap.size V w2) := Lib.hid (fun V hb => by
            have h := findA_any A c m V (fun b => b < B1) (HF1.out _ (HRMW.out V hb).2) (HRMW.out V hb).1 HNO.out HLN.out (by rw [HN.out]; omega) di hdr
            rw [HN.out, HM0.out] at h
            refine h.mono fun e w2 ⟨⟨v, he, hf⟩, hb2⟩ => ⟨⟨v, he, ?_⟩, hb2⟩
            exact node_got HCM.out HZN.out hdi hxc hpv hxr2 hnp hnk rfl hf)
          have HFQ : Hid (∀ V, Below d8.heap.size d8 V → Calls Try.prog 22 #[.agg #[.int .i64 (m0 + (kl : Int)), .slice A1 nX c1'], .int .i64 (m0 + (i : Int))] V fun e w2 => (∃ v, e = .returned v ∧ NodeGot V w2 (m0 + (i : Int)) xc pq rq np nk (zn.refs.map (refTo m0 KS)) v) ∧ Below V.heap.size V w2) := Lib.hid (fun V hb => by
            have h := findA_any A1 c1' ⟨m0 + (kl : Int), CL⟩ V (fun b => b < T) (fun b hx => Nat.lt_of_lt_of_le hx (HRXW.out V hb).2) (HRXW.out V hb).1 (node_ok HCX2.out) (lens_few HCX2.out HFX2.out (by omega)) (by show CL.length ≤ _; rw [HNX.out]; omega) (m0 + (i : Int)) (by unfold InR; omega)
            rw [show (⟨m0 + (kl : Int), CL⟩ : AModel).nodes.length = nX from HNX.out] at h
            refine h.mono fun e w2 ⟨⟨v, he, hf⟩, hb2⟩ => ⟨⟨v, he, ?_⟩, hb2⟩
            exact node_got HCX2.out hmem hqi hqc hpq hrq hqp hqk hqr hf)
          have HNR := Lib.hid hnr
          clear hzn hzi hmem hzi2 hkx hkx2 hdi hqn hxc hxr2 hpv hnp hnk hnr hpq hrq hqi hqc hqp hqk hqr
          have MM : Hid (Mem d8 wr []) := Lib.hid ((Mem.start d8).call HBR.out)
          clear HBR
          go_upto_region 19 with fail
          go_cut [16, 17] (fun sa sb wx => ∃ (nbp : Nat) (Pp Kp Rp : Option Addr) (cpp ckp crp : Nat), sa = .pointer (some ⟨nbp, 0, none⟩) ∧ sb = .bool true ∧ Mem d8 wx [.blk nbp 38 #[.int .i64 di, .string xc, .int .i64 pv, .string xr, .slice Pp np cpp, .slice Kp nk ckp, .slice Rp nr crp]] ∧ RowOf 2 ERef wx (fun b => b < wx.heap.size ∧ b ≠ nbp) Rp zn.refs)
          case first =>
            obtain ⟨u, hu⟩ : ∃ z9 : World, wr.drew = z9 := ⟨_, rfl⟩
            have MM2 : Hid (Mem d8 u ([])) := Lib.hid (by rw [← hu]; exact MM.out.drew)
            clear MM
            have MM := MM2
            clear MM2
            have HSM : Hid (∀ w', Below d8.heap.size d8 w' → w'.cell? ⟨p5, 0, none⟩ = some (.int .i64 m0) ∧ w'.cell? ⟨p5, 1, none⟩ = some (.slice A n c) ∧ w'.cell? ⟨ga, i, none⟩ = some (.int .i64 di)) := Lib.hid (fun w' hb => ⟨(HP5W.out w' hb).1, (HP5W.out w' hb).2, HA0.out w' hb⟩)
            refine wp_region_Y (S := (fun w' : World => w'.cell? ⟨p5, 0, none⟩ = some (.int .i64 m0) ∧ w'.cell? ⟨p5, 1, none⟩ = some (.slice A n c) ∧ w'.cell? ⟨ga, i, none⟩ = some (.int .i64 di))) 11 (by kernel_rfl) (by rw [hu]; exact HSM.out _ MM.out.below) (fun hHeld => ?_)
            rw [hu] at hHeld ⊢
            clear hu
            refine wpAnyY_take (i := 0) (v := ?_) rfl (by kernel_rfl) (by kernel_rfl) (by kernel_rfl) (by kernel_rfl) (fun _ _ _ h => h) (Or.inl ⟨by rfl, ?_⟩) (by assumption) ?_
            rotate_left 1
            · (intro w' hSw; obtain ⟨s0, s1, s2⟩ := hSw; go_simp); try with_reducible rfl
            try simp only [Act.put, List.setIfInBounds_toArray, List.set_cons_zero, List.set_cons_succ, Nat.zero_add]
            refine wpAnyY_take (i := 1) (v := ?_) rfl (by kernel_rfl) (by kernel_rfl) (by kernel_rfl) (by kernel_rfl) (fun _ _ _ h => h) (Or.inl ⟨by rfl, ?_⟩) (by assumption) ?_
            rotate_left 1
            · (intro w' hSw; obtain ⟨s0, s1, s2⟩ := hSw; go_simp); try with_reducible rfl
            try simp only [Act.put, List.setIfInBounds_toArray, List.set_cons_zero, List.set_cons_succ, Nat.zero_add]
            refine wpAnyY_take (i := 2) (v := ?_) rfl (by kernel_rfl) (by kernel_rfl) (by kernel_rfl) (by kernel_rfl) (fun _ _ _ h => h) (Or.inl ⟨by rfl, ?_⟩) (by assumption) ?_
            rotate_left 1
            · (intro w' hSw; obtain ⟨s0, s1, s2⟩ := hSw; go_simp); try with_reducible rfl
            try simp only [Act.put, List.setIfInBounds_toArray, List.set_cons_zero, List.set_cons_succ, Nat.zero_add]
            refine wpAnyY_take (i := 3) (v := ?_) rfl (by kernel_rfl) (by kernel_rfl) (by kernel_rfl) (by kernel_rfl) (fun _ _ _ h => h) (Or.inl ⟨by rfl, ?_⟩) (by assumption) ?_
            rotate_left 1
            · (intro w' hSw; obtain ⟨s0, s1, s2⟩ := hSw; go_simp); try with_reducible rfl
            try simp only [Act.put, List.setIfInBounds_toArray, List.set_cons_zero, List.set_cons_succ, Nat.zero_add]
            refine wpAnyY_take (i := 4) (v := ?_) rfl (by kernel_rfl) (by kernel_rfl) (by kernel_rfl) (by kernel_rfl) (fun _ _ _ h => h) (Or.inl ⟨by rfl, ?_⟩) (by assumption) ?_
            rotate_left 1
            · (intro w' hSw; obtain ⟨s0, s1, s2⟩ := hSw; go_simp); try with_reducible rfl
            try simp only [Act.put, List.setIfInBounds_toArray, List.set_cons_zero, List.set_cons_succ, Nat.zero_add]
            refine wpAnyY_two (i := 5) (j := 9) rfl rfl (by kernel_rfl) (fun K hK => ?_) (fun K hK => ?_)
            · go_simp
              refine (HFP.out _ MM.out.below).mono ?_
              rintro _ y1 ⟨⟨v, rfl, hgot⟩, hb⟩
              obtain ⟨Pp, cpp, Kp, ckp, Rp, crp, rfl, hrr⟩ := hgot
              (try simp only [List.length_map])
              (try rw [HNR.out])
              have HRR : Hid (RowOf 2 ERef y1 (fun b => b < y1.heap.size) Rp zn.refs) := Lib.hid (hrr.keep ERef.stays (Keep.refl _ _) (fun b h => h.2))
              have MM2 : Hid (Mem d8 y1 ([])) := Lib.hid (MM.out.call hb)
              clear MM
              have MM := MM2
              clear MM2
              clear hb hrr
              go_simp
              have hHeldy1 := HSM.out _ MM.out.below
              refine hK.out _ _ (fun _ => HSM.out _ MM.out.below) ?_
              clear hK K
              try simp only [Act.put, List.setIfInBounds_toArray, List.set_cons_zero, List.set_cons_succ, Nat.zero_add]
              refine wpAnyY_take (i := 6) (v := ?_) rfl (by kernel_rfl) (by kernel_rfl) (by kernel_rfl) (by kernel_rfl) (fun _ _ _ h => h) (Or.inl ⟨by rfl, ?_⟩) (by assumption) ?_
              rotate_left 1
              · (intro w' hSw; obtain ⟨s0, s1, s2⟩ := hSw; go_simp); try with_reducible rfl
              try simp only [Act.put, List.setIfInBounds_toArray, List.set_cons_zero, List.set_cons_succ, Nat.zero_add]
              refine wpAnyY_take (i := 7) (v := ?_) rfl (by kernel_rfl) (by kernel_rfl) (by kernel_rfl) (by kernel_rfl) (fun _ _ _ h => h) (Or.inl ⟨by rfl, ?_⟩) (by assumption) ?_
              rotate_left 1
              · (intro w' hSw; obtain ⟨s0, s1, s2⟩ := hSw; go_simp); try with_reducible rfl
              try simp only [Act.put, List.setIfInBounds_toArray, List.set_cons_zero, List.set_cons_succ, Nat.zero_add]
              refine wpAnyY_take (i := 8) (v := ?_) rfl (by kernel_rfl) (by kernel_rfl) (by kernel_rfl) (by kernel_rfl) (fun _ _ _ h => h) (Or.inl ⟨by rfl, ?_⟩) (by assumption) ?_
              rotate_left 1
              · (intro w' hSw; obtain ⟨s0, s1, s2⟩ := hSw; go_simp); try with_reducible rfl
              try simp only [Act.put, List.setIfInBounds_toArray, List.set_cons_zero, List.set_cons_succ, Nat.zero_add]
              refine wpAnyY_one (i := 9) rfl (by kernel_rfl) (fun K hK => ?_)
              go_simp
              obtain ⟨nbp, hnb⟩ : ∃ z, y1.heap.size = z := ⟨_, rfl⟩
              obtain ⟨y2, hu⟩ : ∃ z9 : World, y1.alloc (.cells #[.int .i64 0, .string ⟨#[]⟩, .int .i64 0, .string ⟨#[]⟩, .slice none 0 0, .slice none 0 0, .slice none 0 0] 38) = z9 := ⟨_, rfl⟩
              have hb : Below y1.heap.size y1 y2 := by rw [← hu]; exact (Below.refl _ _).alloc (Nat.le_refl _) _
              have HRR2 : Hid (RowOf 2 ERef y2 (fun b => b < y2.heap.size ∧ b ≠ nbp) Rp zn.refs) := Lib.hid (HRR.out.keep ERef.stays (Keep.below hb (fun _ h => h)) (fun b h => ⟨Nat.lt_of_lt_of_le h hb.size, by omega⟩))
              clear HRR
              have HRR := HRR2
              clear HRR2
              have MM2 : Hid (Mem d8 y2 ([.blk nbp 38 #[.int .i64 0, .string ⟨#[]⟩, .int .i64 0, .string ⟨#[]⟩, .slice none 0 0, .slice none 0 0, .slice none 0 0]])) := Lib.hid (by rw [← hu]; exact MM.out.allocG hnb _ _)
              clear MM
              have MM := MM2
              clear MM2
              rw [hu, hnb]
              clear hu hnb hb
              have hHeldy2 := HSM.out _ MM.out.below
              refine hK.out _ _ (fun _ => HSM.out _ MM.out.below) ?_
              clear hK K
              try simp only [Act.put, List.setIfInBounds_toArray, List.set_cons_zero, List.set_cons_succ, Nat.zero_add]
              refine wpAnyY_one (i := 10) rfl (by kernel_rfl) (fun K hK => ?_)
              have zc0 := (MM.out.blk 0 rfl).cell 0
              have zc1 := (MM.out.blk 0 rfl).cell 1
              have zc2 := (MM.out.blk 0 rfl).cell 2
              have zc3 := (MM.out.blk 0 rfl).cell 3
              have zc4 := (MM.out.blk 0 rfl).cell 4
              have zc5 := (MM.out.blk 0 rfl).cell 5
              have zc6 := (MM.out.blk 0 rfl).cell 6
              have zf0 := (MM.out.blk 0 rfl).frozen 0
              have zf1 := (MM.out.blk 0 rfl).frozen 1
              have zf2 := (MM.out.blk 0 rfl).frozen 2
              have zf3 := (MM.out.blk 0 rfl).frozen 3
              have zf4 := (MM.out.blk 0 rfl).frozen 4
              have zf5 := (MM.out.blk 0 rfl).frozen 5
              have zf6 := (MM.out.blk 0 rfl).frozen 6
              have zlt := (MM.out.blk 0 rfl).lt
              simp at zc0 zc1 zc2 zc3 zc4 zc5 zc6
              have MM2 : Hid (Mem d8 (((((((y2.setCell ⟨nbp, 0, none⟩ (.int .i64 di)).setCell ⟨nbp, 1, none⟩ (.string xc)).setCell ⟨nbp, 2, none⟩ (.int .i64 pv)).setCell ⟨nbp, 3, none⟩ (.string xr)).setCell ⟨nbp, 4, none⟩ (.slice Pp np cpp)).setCell ⟨nbp, 5, none⟩ (.slice Kp nk ckp)).setCell ⟨nbp, 6, none⟩ (.slice Rp nr crp)) ([.blk nbp 38 #[.int .i64 di, .string xc, .int .i64 pv, .string xr, .slice Pp np cpp, .slice Kp nk ckp, .slice Rp nr crp]])) := Lib.hid (((((((MM.out.set_ 0 rfl 0 (.int .i64 di)).set_ 0 rfl 1 (.string xc)).set_ 0 rfl 2 (.int .i64 pv)).set_ 0 rfl 3 (.string xr)).set_ 0 rfl 4 (.slice Pp np cpp)).set_ 0 rfl 5 (.slice Kp nk ckp)).set_ 0 rfl 6 (.slice Rp nr crp))
              have HSZ7 : Hid ((((((((y2.setCell ⟨nbp, 0, none⟩ (.int .i64 di)).setCell ⟨nbp, 1, none⟩ (.string xc)).setCell ⟨nbp, 2, none⟩ (.int .i64 pv)).setCell ⟨nbp, 3, none⟩ (.string xr)).setCell ⟨nbp, 4, none⟩ (.slice Pp np cpp)).setCell ⟨nbp, 5, none⟩ (.slice Kp nk ckp)).setCell ⟨nbp, 6, none⟩ (.slice Rp nr crp)).heap.size = y2.heap.size) := Lib.hid (by simp)
              have HRR2 : Hid (RowOf 2 ERef (((((((y2.setCell ⟨nbp, 0, none⟩ (.int .i64 di)).setCell ⟨nbp, 1, none⟩ (.string xc)).setCell ⟨nbp, 2, none⟩ (.int .i64 pv)).setCell ⟨nbp, 3, none⟩ (.string xr)).setCell ⟨nbp, 4, none⟩ (.slice Pp np cpp)).setCell ⟨nbp, 5, none⟩ (.slice Kp nk ckp)).setCell ⟨nbp, 6, none⟩ (.slice Rp nr crp)) (fun b => b < (((((((y2.setCell ⟨nbp, 0, none⟩ (.int .i64 di)).setCell ⟨nbp, 1, none⟩ (.string xc)).setCell ⟨nbp, 2, none⟩ (.int .i64 pv)).setCell ⟨nbp, 3, none⟩ (.string xr)).setCell ⟨nbp, 4, none⟩ (.slice Pp np cpp)).setCell ⟨nbp, 5, none⟩ (.slice Kp nk ckp)).setCell ⟨nbp, 6, none⟩ (.slice Rp nr crp)).heap.size ∧ b ≠ nbp) Rp zn.refs) := Lib.hid (HRR.out.keep ERef.stays (fun p hp => World.cell?_of_block (heap_set7 hp.2)) (fun b h => ⟨by rw [HSZ7.out]; exact h.1, h.2⟩))
              go_simp
              refine hK.out _ _ (fun _ => HSM.out _ MM2.out.below) ?_
              clear zf0 zf1 zf2 zf3 zf4 zf5 zf6 zc0 zc1 zc2 zc3 zc4 zc5 zc6 zlt
              clear MM HRR
              have MM := MM2
              have HRR := HRR2
              clear MM2 HRR2
              clear hK K
              try simp only [Act.put, List.setIfInBounds_toArray, List.set_cons_zero, List.set_cons_succ, Nat.zero_add]
              refine wpAnyY_one0 (i := 11) rfl (by kernel_rfl) (by kernel_rfl) (fun K hK => ?_)
              go_simp
              refine hK.out _ _ ?_
              clear hK K
              try simp only [Act.put, List.setIfInBounds_toArray, List.set_cons_zero, List.set_cons_succ, Nat.zero_add]
              refine wpAnyY_done (by kernel_rfl) ?_ _
              go_wp2_with fail
              go_meet
              case rel => exact ⟨nbp, Pp, Kp, Rp, cpp, ckp, crp, rfl, rfl, MM.out, HRR.out⟩
            · go_simp
              obtain ⟨nbp, hnb⟩ : ∃ z, u.heap.size = z := ⟨_, rfl⟩
              obtain ⟨y5, hu⟩ : ∃ z9 : World, u.alloc (.cells #[.int .i64 0, .string ⟨#[]⟩, .int .i64 0, .string ⟨#[]⟩, .slice none 0 0, .slice none 0 0, .slice none 0 0] 38) = z9 := ⟨_, rfl⟩
              have hb : Below u.heap.size u y5 := by rw [← hu]; exact (Below.refl _ _).alloc (Nat.le_refl _) _
              have MM2 : Hid (Mem d8 y5 ([.blk nbp 38 #[.int .i64 0, .string ⟨#[]⟩, .int .i64 0, .string ⟨#[]⟩, .slice none 0 0, .slice none 0 0, .slice none 0 0]])) := Lib.hid (by rw [← hu]; exact MM.out.allocG hnb _ _)
              clear MM
              have MM := MM2
              clear MM2
              rw [hu, hnb]
              clear hu hnb hb
              have hHeldy5 := HSM.out _ MM.out.below
              refine hK.out _ _ (fun _ => HSM.out _ MM.out.below) ?_
              clear hK K
              try simp only [Act.put, List.setIfInBounds_toArray, List.set_cons_zero, List.set_cons_succ, Nat.zero_add]
              refine wpAnyY_one (i := 5) rfl (by kernel_rfl) (fun K hK => ?_)
              go_simp
              refine (HFP.out _ MM.out.below).mono ?_
              rintro _ y6 ⟨⟨v, rfl, hgot⟩, hb⟩
              obtain ⟨Pp, cpp, Kp, ckp, Rp, crp, rfl, hrr⟩ := hgot
              (try simp only [List.length_map])
              (try rw [HNR.out])
              have HRR : Hid (RowOf 2 ERef y6 (fun b => b < y6.heap.size ∧ b ≠ nbp) Rp zn.refs) := Lib.hid (hrr.keep ERef.stays (Keep.refl _ _) (fun b h => ⟨h.2, by have := (MM.out.blk 0 rfl).lt; have := h.1; omega⟩))
              have MM2 : Hid (Mem d8 y6 ([.blk nbp 38 #[.int .i64 0, .string ⟨#[]⟩, .int .i64 0, .string ⟨#[]⟩, .slice none 0 0, .slice none 0 0, .slice none 0 0]])) := Lib.hid (MM.out.call hb)
              clear MM
              have MM := MM2
              clear MM2
              clear hb hrr
              go_simp
              have hHeldy6 := HSM.out _ MM.out.below
              refine hK.out _ _ (fun _ => HSM.out _ MM.out.below) ?_
              clear hK K
              try simp only [Act.put, List.setIfInBounds_toArray, List.set_cons_zero, List.set_cons_succ, Nat.zero_add]
              refine wpAnyY_take (i := 6) (v := ?_) rfl (by kernel_rfl) (by kernel_rfl) (by kernel_rfl) (by kernel_rfl) (fun _ _ _ h => h) (Or.inl ⟨by rfl, ?_⟩) (by assumption) ?_
              rotate_left 1
              · (intro w' hSw; obtain ⟨s0, s1, s2⟩ := hSw; go_simp); try with_reducible rfl
              try simp only [Act.put, List.setIfInBounds_toArray, List.set_cons_zero, List.set_cons_succ, Nat.zero_add]
              refine wpAnyY_take (i := 7) (v := ?_) rfl (by kernel_rfl) (by kernel_rfl) (by kernel_rfl) (by kernel_rfl) (fun _ _ _ h => h) (Or.inl ⟨by rfl, ?_⟩) (by assumption) ?_
              rotate_left 1
              · (intro w' hSw; obtain ⟨s0, s1, s2⟩ := hSw; go_simp); try with_reducible rfl
              try simp only [Act.put, List.setIfInBounds_toArray, List.set_cons_zero, List.set_cons_succ, Nat.zero_add]
              refine wpAnyY_take (i := 8) (v := ?_) rfl (by kernel_rfl) (by kernel_rfl) (by kernel_rfl) (by kernel_rfl) (fun _ _ _ h => h) (Or.inl ⟨by rfl, ?_⟩) (by assumption) ?_
              rotate_left 1
              · (intro w' hSw; obtain ⟨s0, s1, s2⟩ := hSw; go_simp); try with_reducible rfl
              try simp only [Act.put, List.setIfInBounds_toArray, List.set_cons_zero, List.set_cons_succ, Nat.zero_add]
              refine wpAnyY_one (i := 10) rfl (by kernel_rfl) (fun K hK => ?_)
              have zc0 := (MM.out.blk 0 rfl).cell 0
              have zc1 := (MM.out.blk 0 rfl).cell 1
              have zc2 := (MM.out.blk 0 rfl).cell 2
              have zc3 := (MM.out.blk 0 rfl).cell 3
              have zc4 := (MM.out.blk 0 rfl).cell 4
              have zc5 := (MM.out.blk 0 rfl).cell 5
              have zc6 := (MM.out.blk 0 rfl).cell 6
              have zf0 := (MM.out.blk 0 rfl).frozen 0
              have zf1 := (MM.out.blk 0 rfl).frozen 1
              have zf2 := (MM.out.blk 0 rfl).frozen 2
              have zf3 := (MM.out.blk 0 rfl).frozen 3
              have zf4 := (MM.out.blk 0 rfl).frozen 4
              have zf5 := (MM.out.blk 0 rfl).frozen 5
              have zf6 := (MM.out.blk 0 rfl).frozen 6
              have zlt := (MM.out.blk 0 rfl).lt
              simp at zc0 zc1 zc2 zc3 zc4 zc5 zc6
              have MM2 : Hid (Mem d8 (((((((y6.setCell ⟨nbp, 0, none⟩ (.int .i64 di)).setCell ⟨nbp, 1, none⟩ (.string xc)).setCell ⟨nbp, 2, none⟩ (.int .i64 pv)).setCell ⟨nbp, 3, none⟩ (.string xr)).setCell ⟨nbp, 4, none⟩ (.slice Pp np cpp)).setCell ⟨nbp, 5, none⟩ (.slice Kp nk ckp)).setCell ⟨nbp, 6, none⟩ (.slice Rp nr crp)) ([.blk nbp 38 #[.int .i64 di, .string xc, .int .i64 pv, .string xr, .slice Pp np cpp, .slice Kp nk ckp, .slice Rp nr crp]])) := Lib.hid (((((((MM.out.set_ 0 rfl 0 (.int .i64 di)).set_ 0 rfl 1 (.string xc)).set_ 0 rfl 2 (.int .i64 pv)).set_ 0 rfl 3 (.string xr)).set_ 0 rfl 4 (.slice Pp np cpp)).set_ 0 rfl 5 (.slice Kp nk ckp)).set_ 0 rfl 6 (.slice Rp nr crp))
              have HSZ7 : Hid ((((((((y6.setCell ⟨nbp, 0, none⟩ (.int .i64 di)).setCell ⟨nbp, 1, none⟩ (.string xc)).setCell ⟨nbp, 2, none⟩ (.int .i64 pv)).setCell ⟨nbp, 3, none⟩ (.string xr)).setCell ⟨nbp, 4, none⟩ (.slice Pp np cpp)).setCell ⟨nbp, 5, none⟩ (.slice Kp nk ckp)).setCell ⟨nbp, 6, none⟩ (.slice Rp nr crp)).heap.size = y6.heap.size) := Lib.hid (by simp)
              have HRR2 : Hid (RowOf 2 ERef (((((((y6.setCell ⟨nbp, 0, none⟩ (.int .i64 di)).setCell ⟨nbp, 1, none⟩ (.string xc)).setCell ⟨nbp, 2, none⟩ (.int .i64 pv)).setCell ⟨nbp, 3, none⟩ (.string xr)).setCell ⟨nbp, 4, none⟩ (.slice Pp np cpp)).setCell ⟨nbp, 5, none⟩ (.slice Kp nk ckp)).setCell ⟨nbp, 6, none⟩ (.slice Rp nr crp)) (fun b => b < (((((((y6.setCell ⟨nbp, 0, none⟩ (.int .i64 di)).setCell ⟨nbp, 1, none⟩ (.string xc)).setCell ⟨nbp, 2, none⟩ (.int .i64 pv)).setCell ⟨nbp, 3, none⟩ (.string xr)).setCell ⟨nbp, 4, none⟩ (.slice Pp np cpp)).setCell ⟨nbp, 5, none⟩ (.slice Kp nk ckp)).setCell ⟨nbp, 6, none⟩ (.slice Rp nr crp)).heap.size ∧ b ≠ nbp) Rp zn.refs) := Lib.hid (HRR.out.keep ERef.stays (fun p hp => World.cell?_of_block (heap_set7 hp.2)) (fun b h => ⟨by rw [HSZ7.out]; exact h.1, h.2⟩))
              go_simp
              refine hK.out _ _ (fun _ => HSM.out _ MM2.out.below) ?_
              clear zf0 zf1 zf2 zf3 zf4 zf5 zf6 zc0 zc1 zc2 zc3 zc4 zc5 zc6 zlt
              clear MM HRR
              have MM := MM2
              have HRR := HRR2
              clear MM2 HRR2
              clear hK K
              try simp only [Act.put, List.setIfInBounds_toArray, List.set_cons_zero, List.set_cons_succ, Nat.zero_add]
              refine wpAnyY_one0 (i := 11) rfl (by kernel_rfl) (by kernel_rfl) (fun K hK => ?_)
              go_simp
              refine hK.out _ _ ?_
              clear hK K
              try simp only [Act.put, List.setIfInBounds_toArray, List.set_cons_zero, List.set_cons_succ, Nat.zero_add]
              refine wpAnyY_done (by kernel_rfl) ?_ _
              go_wp2_with fail
              go_meet
              case rel => exact ⟨nbp, Pp, Kp, Rp, cpp, ckp, crp, rfl, rfl, MM.out, HRR.out⟩
          case rest =>
            obtain ⟨nbp, Pp, Kp, Rp, cpp, ckp, crp, rfl, rfl, hm, hrp⟩ := hcut
            clear MM
            obtain ⟨f1, rfl⟩ : ∃ v : World, v = wc := ⟨_, rfl⟩
            have MM := Lib.hid hm; have HRP := Lib.hid hrp
            clear hm hrp HFP
            have HD8 : Hid (∀ V, Below f1.heap.size f1 V → Below d8.heap.size d8 V) := Lib.hid (fun V hb => MM.out.below.trans (hb.mono MM.out.below.size))
            have HPW : Hid (∀ V, Below f1.heap.size f1 V → Blk V nbp 38 #[.int .i64 di, .string xc, .int .i64 pv, .string xr, .slice Pp np cpp, .slice Kp nk ckp, .slice Rp nr crp] ∧ RowOf 2 ERef V (fun b => b < f1.heap.size) Rp zn.refs) := Lib.hid (fun V hb => ⟨(MM.out.blk 0 rfl).below hb (MM.out.blk 0 rfl).lt, HRP.out.keep ERef.stays (Keep.below hb (fun _ h => h.1)) (fun _ h => h.1)⟩)
            have HM1 := MM
            clear MM HRP
            have MM : Hid (Mem f1 f1 []) := Lib.hid (Mem.start f1)
            go_upto_region 20 with fail
            go_cut [18, 19] (fun sa sb wx => ∃ (nbq : Nat) (Pq Kq Rq : Option Addr) (cpq ckq crq : Nat), sa = .pointer (some ⟨nbq, 0, none⟩) ∧ sb = .bool true ∧ Mem f1 wx [.blk nbq 38 #[.int .i64 (m0 + (i : Int)), .string xc, .int .i64 pq, .string rq, .slice Pq np cpq, .slice Kq nk ckq, .slice Rq nr crq]] ∧ RowOf 2 ERef wx (fun b => b < wx.heap.size ∧ b ≠ nbq) Rq (zn.refs.map (refTo m0 KS)))
            case first =>
              obtain ⟨u, hu⟩ : ∃ z9 : World, f1.drew = z9 := ⟨_, rfl⟩
              have MM2 : Hid (Mem f1 u ([])) := Lib.hid (by rw [← hu]; exact MM.out.drew)
              clear MM
              have MM := MM2
              clear MM2
              have HSM : Hid (∀ w', Below f1.heap.size f1 w' → w'.cell? ⟨p10, 0, none⟩ = some (.int .i64 (m0 + (kl : Int))) ∧ w'.cell? ⟨p10, 1, none⟩ = some (.slice A1 nX c1') ∧ w'.cell? ⟨gb, i, none⟩ = some (.int .i64 (m0 + (i : Int)))) := Lib.hid (fun w' hb => ⟨(HP10W.out w' (HD8.out _ hb)).1, (HP10W.out w' (HD8.out _ hb)).2, HB0.out w' (HD8.out _ hb)⟩)
              refine wp_region_Y (S := (fun w' : World => w'.cell? ⟨p10, 0, none⟩ = some (.int .i64 (m0 + (kl : Int))) ∧ w'.cell? ⟨p10, 1, none⟩ = some (.slice A1 nX c1') ∧ w'.cell? ⟨gb, i, none⟩ = some (.int .i64 (m0 + (i : Int))))) 11 (by kernel_rfl) (by rw [hu]; exact HSM.out _ MM.out.below) (fun hHeld => ?_)
              rw [hu] at hHeld ⊢
              clear hu
              refine wpAnyY_take (i := 0) (v := ?_) rfl (by kernel_rfl) (by kernel_rfl) (by kernel_rfl) (by kernel_rfl) (fun _ _ _ h => h) (Or.inl ⟨by rfl, ?_⟩) (by assumption) ?_
              rotate_left 1
              · (intro w' hSw; obtain ⟨s0, s1, s2⟩ := hSw; go_simp); try with_reducible rfl
              try simp only [Act.put, List.setIfInBounds_toArray, List.set_cons_zero, List.set_cons_succ, Nat.zero_add]
              refine wpAnyY_take (i := 1) (v := ?_) rfl (by kernel_rfl) (by kernel_rfl) (by kernel_rfl) (by kernel_rfl) (fun _ _ _ h => h) (Or.inl ⟨by rfl, ?_⟩) (by assumption) ?_
              rotate_left 1
              · (intro w' hSw; obtain ⟨s0, s1, s2⟩ := hSw; go_simp); try with_reducible rfl
              try simp only [Act.put, List.setIfInBounds_toArray, List.set_cons_zero, List.set_cons_succ, Nat.zero_add]
              refine wpAnyY_take (i := 2) (v := ?_) rfl (by kernel_rfl) (by kernel_rfl) (by kernel_rfl) (by kernel_rfl) (fun _ _ _ h => h) (Or.inl ⟨by rfl, ?_⟩) (by assumption) ?_
              rotate_left 1
              · (intro w' hSw; obtain ⟨s0, s1, s2⟩ := hSw; go_simp); try with_reducible rfl
              try simp only [Act.put, List.setIfInBounds_toArray, List.set_cons_zero, List.set_cons_succ, Nat.zero_add]
              refine wpAnyY_take (i := 3) (v := ?_) rfl (by kernel_rfl) (by kernel_rfl) (by kernel_rfl) (by kernel_rfl) (fun _ _ _ h => h) (Or.inl ⟨by rfl, ?_⟩) (by assumption) ?_
              rotate_left 1
              · (intro w' hSw; obtain ⟨s0, s1, s2⟩ := hSw; go_simp); try with_reducible rfl
              try simp only [Act.put, List.setIfInBounds_toArray, List.set_cons_zero, List.set_cons_succ, Nat.zero_add]
              refine wpAnyY_take (i := 4) (v := ?_) rfl (by kernel_rfl) (by kernel_rfl) (by kernel_rfl) (by kernel_rfl) (fun _ _ _ h => h) (Or.inl ⟨by rfl, ?_⟩) (by assumption) ?_
              rotate_left 1
              · (intro w' hSw; obtain ⟨s0, s1, s2⟩ := hSw; go_simp); try with_reducible rfl
              try simp only [Act.put, List.setIfInBounds_toArray, List.set_cons_zero, List.set_cons_succ, Nat.zero_add]
              refine wpAnyY_two (i := 5) (j := 9) rfl rfl (by kernel_rfl) (fun K hK => ?_) (fun K hK => ?_)
              · go_simp
                refine (HFQ.out _ (HD8.out _ MM.out.below)).mono ?_
                rintro _ y9 ⟨⟨v, rfl, hgot⟩, hb⟩
                obtain ⟨Pq, cpq, Kq, ckq, Rq, crq, rfl, hrr⟩ := hgot
                (try simp only [List.length_map])
                (try rw [HNR.out])
                have HRR : Hid (RowOf 2 ERef y9 (fun b => b < y9.heap.size) Rq (zn.refs.map (refTo m0 KS))) := Lib.hid (hrr.keep ERef.stays (Keep.refl _ _) (fun b h => h.2))
                have MM2 : Hid (Mem f1 y9 ([])) := Lib.hid (MM.out.call hb)
                clear MM
                have MM := MM2
                clear MM2
                clear hb hrr
                go_simp
                have hHeldy9 := HSM.out _ MM.out.below
                refine hK.out _ _ (fun _ => HSM.out _ MM.out.below) ?_
                clear hK K
                try simp only [Act.put, List.setIfInBounds_toArray, List.set_cons_zero, List.set_cons_succ, Nat.zero_add]
                refine wpAnyY_take (i := 6) (v := ?_) rfl (by kernel_rfl) (by kernel_rfl) (by kernel_rfl) (by kernel_rfl) (fun _ _ _ h => h) (Or.inl ⟨by rfl, ?_⟩) (by assumption) ?_
                rotate_left 1
                · (intro w' hSw; obtain ⟨s0, s1, s2⟩ := hSw; go_simp); try with_reducible rfl
                try simp only [Act.put, List.setIfInBounds_toArray, List.set_cons_zero, List.set_cons_succ, Nat.zero_add]
                refine wpAnyY_take (i := 7) (v := ?_) rfl (by kernel_rfl) (by kernel_rfl) (by kernel_rfl) (by kernel_rfl) (fun _ _ _ h => h) (Or.inl ⟨by rfl, ?_⟩) (by assumption) ?_
                rotate_left 1
                · (intro w' hSw; obtain ⟨s0, s1, s2⟩ := hSw; go_simp); try with_reducible rfl
                try simp only [Act.put, List.setIfInBounds_toArray, List.set_cons_zero, List.set_cons_succ, Nat.zero_add]
                refine wpAnyY_take (i := 8) (v := ?_) rfl (by kernel_rfl) (by kernel_rfl) (by kernel_rfl) (by kernel_rfl) (fun _ _ _ h => h) (Or.inl ⟨by rfl, ?_⟩) (by assumption) ?_
                rotate_left 1
                · (intro w' hSw; obtain ⟨s0, s1, s2⟩ := hSw; go_simp); try with_reducible rfl
                try simp only [Act.put, List.setIfInBounds_toArray, List.set_cons_zero, List.set_cons_succ, Nat.zero_add]
                refine wpAnyY_one (i := 9) rfl (by kernel_rfl) (fun K hK => ?_)
                go_simp
                obtain ⟨nbq, hnb⟩ : ∃ z, y9.heap.size = z := ⟨_, rfl⟩
                obtain ⟨y10, hu⟩ : ∃ z9 : World, y9.alloc (.cells #[.int .i64 0, .string ⟨#[]⟩, .int .i64 0, .string ⟨#[]⟩, .slice none 0 0, .slice none 0 0, .slice none 0 0] 38) = z9 := ⟨_, rfl⟩
                have hb : Below y9.heap.size y9 y10 := by rw [← hu]; exact (Below.refl _ _).alloc (Nat.le_refl _) _
                have HRR2 : Hid (RowOf 2 ERef y10 (fun b => b < y10.heap.size ∧ b ≠ nbq) Rq (zn.refs.map (refTo m0 KS))) := Lib.hid (HRR.out.keep ERef.stays (Keep.below hb (fun _ h => h)) (fun b h => ⟨Nat.lt_of_lt_of_le h hb.size, by omega⟩))
                clear HRR
                have HRR := HRR2
                clear HRR2
                have MM2 : Hid (Mem f1 y10 ([.blk nbq 38 #[.int .i64 0, .string ⟨#[]⟩, .int .i64 0, .string ⟨#[]⟩, .slice none 0 0, .slice none 0 0, .slice none 0 0]])) := Lib.hid (by rw [← hu]; exact MM.out.allocG hnb _ _)
                clear MM
                have MM := MM2
                clear MM2
                rw [hu, hnb]
                clear hu hnb hb
                have hHeldy10 := HSM.out _ MM.out.below
                refine hK.out _ _ (fun _ => HSM.out _ MM.out.below) ?_
                clear hK K
                try simp only [Act.put, List.setIfInBounds_toArray, List.set_cons_zero, List.set_cons_succ, Nat.zero_add]
                refine wpAnyY_one (i := 10) rfl (by kernel_rfl) (fun K hK => ?_)
                have zc0 := (MM.out.blk 0 rfl).cell 0
                have zc1 := (MM.out.blk 0 rfl).cell 1
                have zc2 := (MM.out.blk 0 rfl).cell 2
                have zc3 := (MM.out.blk 0 rfl).cell 3
                have zc4 := (MM.out.blk 0 rfl).cell 4
                have zc5 := (MM.out.blk 0 rfl).cell 5
                have zc6 := (MM.out.blk 0 rfl).cell 6
                have zf0 := (MM.out.blk 0 rfl).frozen 0
                have zf1 := (MM.out.blk 0 rfl).frozen 1
                have zf2 := (MM.out.blk 0 rfl).frozen 2
                have zf3 := (MM.out.blk 0 rfl).frozen 3
                have zf4 := (MM.out.blk 0 rfl).frozen 4
                have zf5 := (MM.out.blk 0 rfl).frozen 5
                have zf6 := (MM.out.blk 0 rfl).frozen 6
                have zlt := (MM.out.blk 0 rfl).lt
                simp at zc0 zc1 zc2 zc3 zc4 zc5 zc6
                have MM2 : Hid (Mem f1 (((((((y10.setCell ⟨nbq, 0, none⟩ (.int .i64 (m0 + (i : Int)))).setCell ⟨nbq, 1, none⟩ (.string xc)).setCell ⟨nbq, 2, none⟩ (.int .i64 pq)).setCell ⟨nbq, 3, none⟩ (.string rq)).setCell ⟨nbq, 4, none⟩ (.slice Pq np cpq)).setCell ⟨nbq, 5, none⟩ (.slice Kq nk ckq)).setCell ⟨nbq, 6, none⟩ (.slice Rq nr crq)) ([.blk nbq 38 #[.int .i64 (m0 + (i : Int)), .string xc, .int .i64 pq, .string rq, .slice Pq np cpq, .slice Kq nk ckq, .slice Rq nr crq]])) := Lib.hid (((((((MM.out.set_ 0 rfl 0 (.int .i64 (m0 + (i : Int)))).set_ 0 rfl 1 (.string xc)).set_ 0 rfl 2 (.int .i64 pq)).set_ 0 rfl 3 (.string rq)).set_ 0 rfl 4 (.slice Pq np cpq)).set_ 0 rfl 5 (.slice Kq nk ckq)).set_ 0 rfl 6 (.slice Rq nr crq))
                have HSZ7 : Hid ((((((((y10.setCell ⟨nbq, 0, none⟩ (.int .i64 (m0 + (i : Int)))).setCell ⟨nbq, 1, none⟩ (.string xc)).setCell ⟨nbq, 2, none⟩ (.int .i64 pq)).setCell ⟨nbq, 3, none⟩ (.string rq)).setCell ⟨nbq, 4, none⟩ (.slice Pq np cpq)).setCell ⟨nbq, 5, none⟩ (.slice Kq nk ckq)).setCell ⟨nbq, 6, none⟩ (.slice Rq nr crq)).heap.size = y10.heap.size) := Lib.hid (by simp)
                have HRR2 : Hid (RowOf 2 ERef (((((((y10.setCell ⟨nbq, 0, none⟩ (.int .i64 (m0 + (i : Int)))).setCell ⟨nbq, 1, none⟩ (.string xc)).setCell ⟨nbq, 2, none⟩ (.int .i64 pq)).setCell ⟨nbq, 3, none⟩ (.string rq)).setCell ⟨nbq, 4, none⟩ (.slice Pq np cpq)).setCell ⟨nbq, 5, none⟩ (.slice Kq nk ckq)).setCell ⟨nbq, 6, none⟩ (.slice Rq nr crq)) (fun b => b < (((((((y10.setCell ⟨nbq, 0, none⟩ (.int .i64 (m0 + (i : Int)))).setCell ⟨nbq, 1, none⟩ (.string xc)).setCell ⟨nbq, 2, none⟩ (.int .i64 pq)).setCell ⟨nbq, 3, none⟩ (.string rq)).setCell ⟨nbq, 4, none⟩ (.slice Pq np cpq)).setCell ⟨nbq, 5, none⟩ (.slice Kq nk ckq)).setCell ⟨nbq, 6, none⟩ (.slice Rq nr crq)).heap.size ∧ b ≠ nbq) Rq (zn.refs.map (refTo m0 KS))) := Lib.hid (HRR.out.keep ERef.stays (fun p hp => World.cell?_of_block (heap_set7 hp.2)) (fun b h => ⟨by rw [HSZ7.out]; exact h.1, h.2⟩))
                go_simp
                refine hK.out _ _ (fun _ => HSM.out _ MM2.out.below) ?_
                clear zf0 zf1 zf2 zf3 zf4 zf5 zf6 zc0 zc1 zc2 zc3 zc4 zc5 zc6 zlt
                clear MM HRR
                have MM := MM2
                have HRR := HRR2
                clear MM2 HRR2
                clear hK K
                try simp only [Act.put, List.setIfInBounds_toArray, List.set_cons_zero, List.set_cons_succ, Nat.zero_add]
                refine wpAnyY_one0 (i := 11) rfl (by kernel_rfl) (by kernel_rfl) (fun K hK => ?_)
                go_simp
                refine hK.out _ _ ?_
                clear hK K
                try simp only [Act.put, List.setIfInBounds_toArray, List.set_cons_zero, List.set_cons_succ, Nat.zero_add]
                refine wpAnyY_done (by kernel_rfl) ?_ _
                go_wp2_with fail
                go_meet
                case rel => exact ⟨nbq, Pq, Kq, Rq, cpq, ckq, crq, rfl, rfl, MM.out, HRR.out⟩
              · go_simp
                obtain ⟨nbq, hnb⟩ : ∃ z, u.heap.size = z := ⟨_, rfl⟩
                obtain ⟨y13, hu⟩ : ∃ z9 : World, u.alloc (.cells #[.int .i64 0, .string ⟨#[]⟩, .int .i64 0, .string ⟨#[]⟩, .slice none 0 0, .slice none 0 0, .slice none 0 0] 38) = z9 := ⟨_, rfl⟩
                have hb : Below u.heap.size u y13 := by rw [← hu]; exact (Below.refl _ _).alloc (Nat.le_refl _) _
                have MM2 : Hid (Mem f1 y13 ([.blk nbq 38 #[.int .i64 0, .string ⟨#[]⟩, .int .i64 0, .string ⟨#[]⟩, .slice none 0 0, .slice none 0 0, .slice none 0 0]])) := Lib.hid (by rw [← hu]; exact MM.out.allocG hnb _ _)
                clear MM
                have MM := MM2
                clear MM2
                rw [hu, hnb]
                clear hu hnb hb
                have hHeldy13 := HSM.out _ MM.out.below
                refine hK.out _ _ (fun _ => HSM.out _ MM.out.below) ?_
                clear hK K
                try simp only [Act.put, List.setIfInBounds_toArray, List.set_cons_zero, List.set_cons_succ, Nat.zero_add]
                refine wpAnyY_one (i := 5) rfl (by kernel_rfl) (fun K hK => ?_)
                go_simp
                refine (HFQ.out _ (HD8.out _ MM.out.below)).mono ?_
                rintro _ y14 ⟨⟨v, rfl, hgot⟩, hb⟩
                obtain ⟨Pq, cpq, Kq, ckq, Rq, crq, rfl, hrr⟩ := hgot
                (try simp only [List.length_map])
                (try rw [HNR.out])
                have HRR : Hid (RowOf 2 ERef y14 (fun b => b < y14.heap.size ∧ b ≠ nbq) Rq (zn.refs.map (refTo m0 KS))) := Lib.hid (hrr.keep ERef.stays (Keep.refl _ _) (fun b h => ⟨h.2, by have := (MM.out.blk 0 rfl).lt; have := h.1; omega⟩))
                have MM2 : Hid (Mem f1 y14 ([.blk nbq 38 #[.int .i64 0, .string ⟨#[]⟩, .int .i64 0, .string ⟨#[]⟩, .slice none 0 0, .slice none 0 0, .slice none 0 0]])) := Lib.hid (MM.out.call hb)
                clear MM
                have MM := MM2
                clear MM2
                clear hb hrr
                go_simp
                have hHeldy14 := HSM.out _ MM.out.below
                refine hK.out _ _ (fun _ => HSM.out _ MM.out.below) ?_
                clear hK K
                try simp only [Act.put, List.setIfInBounds_toArray, List.set_cons_zero, List.set_cons_succ, Nat.zero_add]
                refine wpAnyY_take (i := 6) (v := ?_) rfl (by kernel_rfl) (by kernel_rfl) (by kernel_rfl) (by kernel_rfl) (fun _ _ _ h => h) (Or.inl ⟨by rfl, ?_⟩) (by assumption) ?_
                rotate_left 1
                · (intro w' hSw; obtain ⟨s0, s1, s2⟩ := hSw; go_simp); try with_reducible rfl
                try simp only [Act.put, List.setIfInBounds_toArray, List.set_cons_zero, List.set_cons_succ, Nat.zero_add]
                refine wpAnyY_take (i := 7) (v := ?_) rfl (by kernel_rfl) (by kernel_rfl) (by kernel_rfl) (by kernel_rfl) (fun _ _ _ h => h) (Or.inl ⟨by rfl, ?_⟩) (by assumption) ?_
                rotate_left 1
                · (intro w' hSw; obtain ⟨s0, s1, s2⟩ := hSw; go_simp); try with_reducible rfl
                try simp only [Act.put, List.setIfInBounds_toArray, List.set_cons_zero, List.set_cons_succ, Nat.zero_add]
                refine wpAnyY_take (i := 8) (v := ?_) rfl (by kernel_rfl) (by kernel_rfl) (by kernel_rfl) (by kernel_rfl) (fun _ _ _ h => h) (Or.inl ⟨by rfl, ?_⟩) (by assumption) ?_
                rotate_left 1
                · (intro w' hSw; obtain ⟨s0, s1, s2⟩ := hSw; go_simp); try with_reducible rfl
                try simp only [Act.put, List.setIfInBounds_toArray, List.set_cons_zero, List.set_cons_succ, Nat.zero_add]
                refine wpAnyY_one (i := 10) rfl (by kernel_rfl) (fun K hK => ?_)
                have zc0 := (MM.out.blk 0 rfl).cell 0
                have zc1 := (MM.out.blk 0 rfl).cell 1
                have zc2 := (MM.out.blk 0 rfl).cell 2
                have zc3 := (MM.out.blk 0 rfl).cell 3
                have zc4 := (MM.out.blk 0 rfl).cell 4
                have zc5 := (MM.out.blk 0 rfl).cell 5
                have zc6 := (MM.out.blk 0 rfl).cell 6
                have zf0 := (MM.out.blk 0 rfl).frozen 0
                have zf1 := (MM.out.blk 0 rfl).frozen 1
                have zf2 := (MM.out.blk 0 rfl).frozen 2
                have zf3 := (MM.out.blk 0 rfl).frozen 3
                have zf4 := (MM.out.blk 0 rfl).frozen 4
                have zf5 := (MM.out.blk 0 rfl).frozen 5
                have zf6 := (MM.out.blk 0 rfl).frozen 6
                have zlt := (MM.out.blk 0 rfl).lt
                simp at zc0 zc1 zc2 zc3 zc4 zc5 zc6
                have MM2 : Hid (Mem f1 (((((((y14.setCell ⟨nbq, 0, none⟩ (.int .i64 (m0 + (i : Int)))).setCell ⟨nbq, 1, none⟩ (.string xc)).setCell ⟨nbq, 2, none⟩ (.int .i64 pq)).setCell ⟨nbq, 3, none⟩ (.string rq)).setCell ⟨nbq, 4, none⟩ (.slice Pq np cpq)).setCell ⟨nbq, 5, none⟩ (.slice Kq nk ckq)).setCell ⟨nbq, 6, none⟩ (.slice Rq nr crq)) ([.blk nbq 38 #[.int .i64 (m0 + (i : Int)), .string xc, .int .i64 pq, .string rq, .slice Pq np cpq, .slice Kq nk ckq, .slice Rq nr crq]])) := Lib.hid (((((((MM.out.set_ 0 rfl 0 (.int .i64 (m0 + (i : Int)))).set_ 0 rfl 1 (.string xc)).set_ 0 rfl 2 (.int .i64 pq)).set_ 0 rfl 3 (.string rq)).set_ 0 rfl 4 (.slice Pq np cpq)).set_ 0 rfl 5 (.slice Kq nk ckq)).set_ 0 rfl 6 (.slice Rq nr crq))
                have HSZ7 : Hid ((((((((y14.setCell ⟨nbq, 0, none⟩ (.int .i64 (m0 + (i : Int)))).setCell ⟨nbq, 1, none⟩ (.string xc)).setCell ⟨nbq, 2, none⟩ (.int .i64 pq)).setCell ⟨nbq, 3, none⟩ (.string rq)).setCell ⟨nbq, 4, none⟩ (.slice Pq np cpq)).setCell ⟨nbq, 5, none⟩ (.slice Kq nk ckq)).setCell ⟨nbq, 6, none⟩ (.slice Rq nr crq)).heap.size = y14.heap.size) := Lib.hid (by simp)
                have HRR2 : Hid (RowOf 2 ERef (((((((y14.setCell ⟨nbq, 0, none⟩ (.int .i64 (m0 + (i : Int)))).setCell ⟨nbq, 1, none⟩ (.string xc)).setCell ⟨nbq, 2, none⟩ (.int .i64 pq)).setCell ⟨nbq, 3, none⟩ (.string rq)).setCell ⟨nbq, 4, none⟩ (.slice Pq np cpq)).setCell ⟨nbq, 5, none⟩ (.slice Kq nk ckq)).setCell ⟨nbq, 6, none⟩ (.slice Rq nr crq)) (fun b => b < (((((((y14.setCell ⟨nbq, 0, none⟩ (.int .i64 (m0 + (i : Int)))).setCell ⟨nbq, 1, none⟩ (.string xc)).setCell ⟨nbq, 2, none⟩ (.int .i64 pq)).setCell ⟨nbq, 3, none⟩ (.string rq)).setCell ⟨nbq, 4, none⟩ (.slice Pq np cpq)).setCell ⟨nbq, 5, none⟩ (.slice Kq nk ckq)).setCell ⟨nbq, 6, none⟩ (.slice Rq nr crq)).heap.size ∧ b ≠ nbq) Rq (zn.refs.map (refTo m0 KS))) := Lib.hid (HRR.out.keep ERef.stays (fun p hp => World.cell?_of_block (heap_set7 hp.2)) (fun b h => ⟨by rw [HSZ7.out]; exact h.1, h.2⟩))
                go_simp
                refine hK.out _ _ (fun _ => HSM.out _ MM2.out.below) ?_
                clear zf0 zf1 zf2 zf3 zf4 zf5 zf6 zc0 zc1 zc2 zc3 zc4 zc5 zc6 zlt
                clear MM HRR
                have MM := MM2
                have HRR := HRR2
                clear MM2 HRR2
                clear hK K
                try simp only [Act.put, List.setIfInBounds_toArray, List.set_cons_zero, List.set_cons_succ, Nat.zero_add]
                refine wpAnyY_one0 (i := 11) rfl (by kernel_rfl) (by kernel_rfl) (fun K hK => ?_)
                go_simp
                refine hK.out _ _ ?_
                clear hK K
                try simp only [Act.put, List.setIfInBounds_toArray, List.set_cons_zero, List.set_cons_succ, Nat.zero_add]
                refine wpAnyY_done (by kernel_rfl) ?_ _
                go_wp2_with fail
                go_meet
                case rel => exact ⟨nbq, Pq, Kq, Rq, cpq, ckq, crq, rfl, rfl, MM.out, HRR.out⟩
            case rest =>
              obtain ⟨nbq, Pq, Kq, Rq, cpq, ckq, crq, rfl, rfl, hm, hrq⟩ := hcut
              clear MM
              obtain ⟨f2, rfl⟩ : ∃ v : World, v = wc := ⟨_, rfl⟩
              have MM := Lib.hid hm; have HRQ2 := Lib.hid hrq
              clear hm hrq HFQ
              have HND : Hid KS.Nodup := Lib.hid (by
                obtain ⟨z, hz, e⟩ := HXN.out
                rw [← HKS.out, ← e]; exact ks_nodup HCM.out.tree hz)
              have hw3 : IntKind.i64.wrap (m0 + (i : Int)) = m0 + i := IntWalk.i64_in _ ⟨by omega, by omega⟩
              have HF2 : Hid (∀ V, Below f2.heap.size f2 V → Below f1.heap.size f1 V) := Lib.hid (fun V hb => MM.out.below.trans (hb.mono MM.out.below.size))
              have HQW : Hid (∀ V, Below f2.heap.size f2 V → Blk V nbq 38 #[.int .i64 (m0 + (i : Int)), .string xc, .int .i64 pq, .string rq, .slice Pq np cpq, .slice Kq nk ckq, .slice Rq nr crq] ∧ RowOf 2 ERef V (fun b => b < f2.heap.size) Rq (zn.refs.map (refTo m0 KS))) := Lib.hid (fun V hb => ⟨(MM.out.blk 0 rfl).below hb (MM.out.blk 0 rfl).lt, HRQ2.out.keep ERef.stays (Keep.below hb (fun _ h => h.1)) (fun _ h => h.1)⟩)
              have HP6 : Hid (∀ V, Below f1.heap.size f1 V → V.cell? ⟨nbp, 6, none⟩ = some (.slice Rp nr crp)) := Lib.hid (fun V hb => by
                have a := (HPW.out V hb).1.cell 6
                simp at a
                exact a)
              have HQ6 : Hid (∀ V, Below f2.heap.size f2 V → V.cell? ⟨nbq, 6, none⟩ = some (.slice Rq nr crq)) := Lib.hid (fun V hb => by
                have a := (HQW.out V hb).1.cell 6
                simp at a
                exact a)
              have hnrb : nr ≤ 150 := by rw [← HNR.out]; exact (HFW.out zn HZN.out).2
              go_upto_region 21 with fail
              go_cut [202] (fun s202 wx => s202 = .bool false ∧ f2 = wx)
              case first => as_aux_lemma =>
                by_cases h0 : i = 0
                · have b1 := (HPW.out _ MM.out.below).1.cell 1; have b3 := (HPW.out _ MM.out.below).1.cell 3; have b5 := (HPW.out _ MM.out.below).1.cell 5; have b6 := (HPW.out _ MM.out.below).1.cell 6
                  simp at b1 b3 b5 b6
                  have qc1 := (MM.out.blk 0 rfl).cell 1
                  have qc2 := (MM.out.blk 0 rfl).cell 2
                  have qc3 := (MM.out.blk 0 rfl).cell 3
                  have qc5 := (MM.out.blk 0 rfl).cell 5
                  have qc6 := (MM.out.blk 0 rfl).cell 6
                  have qlt := (MM.out.blk 0 rfl).lt
                  simp at qc1 qc2 qc3 qc5 qc6
                  have aj := HB0.out _ (HD8.out _ MM.out.below)
                  obtain ⟨hpq, hrq⟩ := HQ0.out h0
                  subst hpq hrq
                  have z1 : ((i : Int) == 0) = true := by simp; exact h0
                  have z2 : ¬ (0 : Int) < i := by omega
                  have z3 : decide ((0 : Int) < i) = false := decide_eq_false z2
                  clear h0 HQ0 HQ1
                  go_wp2_with fail
                  go_meet
                  case rel => exact ⟨rfl, rfl⟩
                · have b1 := (HPW.out _ MM.out.below).1.cell 1; have b3 := (HPW.out _ MM.out.below).1.cell 3; have b5 := (HPW.out _ MM.out.below).1.cell 5; have b6 := (HPW.out _ MM.out.below).1.cell 6
                  simp at b1 b3 b5 b6
                  have qc1 := (MM.out.blk 0 rfl).cell 1
                  have qc2 := (MM.out.blk 0 rfl).cell 2
                  have qc3 := (MM.out.blk 0 rfl).cell 3
                  have qc5 := (MM.out.blk 0 rfl).cell 5
                  have qc6 := (MM.out.blk 0 rfl).cell 6
                  have qlt := (MM.out.blk 0 rfl).lt
                  simp at qc1 qc2 qc3 qc5 qc6
                  have aj := HB0.out _ (HD8.out _ MM.out.below)
                  have hrq := HQ1.out h0
                  subst hrq
                  have z1 : ((i : Int) == 0) = false := by simp; exact h0
                  have z2 : (0 : Int) < i := by omega
                  have z3 : decide ((0 : Int) < i) = true := decide_eq_true z2
                  clear h0 HQ0 HQ1
                  go_wp2_with fail
                  go_meet
                  case rel => exact ⟨rfl, rfl⟩
              case rest => as_aux_lemma =>
                obtain ⟨rfl, rfl⟩ := hcut
                clear HM1 HQ0 HQ1
                have HHM := MM
                go_upto_region 24 with fail
                clear MM HRQ2
                go_loopg [20] nr (fun n s20 wx => ∃ k : Nat, s20 = .int .i64 k ∧ n = nr - k ∧ k ≤ nr ∧ Below f2.heap.size f2 wx)
                case atStart => exact ⟨0, rfl, rfl, Nat.zero_le _, Below.refl _ _⟩
                case round =>
                  obtain ⟨k, rfl, rfl, hkn, hbr⟩ := hrel
                  have HB2 := Lib.hid hbr
                  clear hbr
                  have hk0 : (0 : Int) ≤ k := by omega
                  by_cases hk : k < nr
                  rotate_left 1
                  · as_aux_lemma =>
                    have hk' : ¬ (k : Int) < nr := by omega
                    have p6 := HP6.out _ (HF2.out _ HB2.out)
                    go_wp2_with fail
                    go_roundg (kl - (i + 1))
                    case measure => omega
                    case rel => exact ⟨i + 1, by go_num, rfl, by omega, HD8.out _ (HF2.out _ HB2.out)⟩
                  have hk' : (k : Int) < nr := by omega
                  have hkr : k < zn.refs.length := by rw [HNR.out]; exact hk
                  have hkq : k < (zn.refs.map (refTo m0 KS)).length := by rw [List.length_map]; exact hkr
                  obtain ⟨br, orr, rfl, hbr, d0, d1⟩ := ref_at (HPW.out f1 (Below.refl _ _)).2 hkr
                  obtain ⟨bq, oq, rfl, hbq, e0, e1⟩ := ref_at (HQW.out f2 (Below.refl _ _)).2 hkq
                  rw [List.getElem_map, refTo_role] at e0
                  rw [List.getElem_map] at e1
                  have hwa := wantJ_all (m0 := m0) (KS := KS) zn.refs[k]
                  rw [HKL2.out] at hwa
                  obtain ⟨tq, htq⟩ : ∃ z, (refTo m0 KS zn.refs[k]).target = z := ⟨_, rfl⟩
                  obtain ⟨t, ht⟩ : ∃ z, zn.refs[k].target = z := ⟨_, rfl⟩
                  obtain ⟨rr, hrr⟩ : ∃ z, zn.refs[k].role = z := ⟨_, rfl⟩
                  rw [htq] at hwa e1
                  rw [ht] at hwa d1
                  rw [hrr] at d0 e0
                  have HWA := Lib.hid hwa
                  have HPR : Hid (∀ V, Below f1.heap.size f1 V → V.cell? ⟨br, orr + k * 2, none⟩ = some (.string rr) ∧ V.cell? ⟨br, orr + k * 2 + 1, none⟩ = some (.int .i64 t)) := Lib.hid (fun V hb => ⟨(hb.cell (p := ⟨br, _, none⟩) hbr).trans d0, (hb.cell (p := ⟨br, _, none⟩) hbr).trans d1⟩)
                  have HQR : Hid (∀ V, Below f2.heap.size f2 V → V.cell? ⟨bq, oq + k * 2, none⟩ = some (.string rr) ∧ V.cell? ⟨bq, oq + k * 2 + 1, none⟩ = some (.int .i64 tq)) := Lib.hid (fun V hb => ⟨(hb.cell (p := ⟨bq, _, none⟩) hbq).trans e0, (hb.cell (p := ⟨bq, _, none⟩) hbq).trans e1⟩)
                  have hne2 : ∀ w, Sem.run Try.prog (Go.binOp .neq 82 (.agg #[.string rr, .int .i64 tq]) (.agg #[.string rr, .int .i64 tq])) w = .ok (.bool false) w := fun w => by
                    have := neq_ref ⟨rr, tq⟩ ⟨rr, tq⟩ w
                    rw [eqB_yes rfl] at this
                    exact this
                  have hgd := eqGuard_struct (t := 82) (op := .neq) (h := by kernel_rfl)
                  clear d0 d1 e0 e1 htq ht hrr hwa hkq hkr
                  have p6 := HP6.out _ (HF2.out _ HB2.out)
                  have pr1 := (HPR.out _ (HF2.out _ HB2.out)).2
                  go_upto_region 28 with fail
                  clear p6 pr1
                  go_loopg [21, 22] kl (fun n s21 s22 wx => ∃ j : Nat, s21 = .int .i64 (wantJ m0 KS t j) ∧ s22 = .int .i64 j ∧ n = kl - j ∧ j ≤ kl ∧ Below f2.heap.size f2 wx)
                  case atStart => exact ⟨0, by rw [wantJ_zero], rfl, rfl, Nat.zero_le _, HB2.out⟩
                  case round =>
                    clear HB2
                    obtain ⟨j, rfl, rfl, rfl, hjn, hbr⟩ := hrel
                    have HB2 := Lib.hid hbr
                    clear hbr
                    have hj0 : (0 : Int) ≤ j := by omega
                    by_cases hj : j < kl
                    rotate_left 1
                    · as_aux_lemma =>
                      have hj' : ¬ (j : Int) < kl := by omega
                      obtain rfl : j = kl := by omega
                      rw [HWA.out]
                      go_upto_region 32 with fail
                      have p6 := HP6.out _ (HF2.out _ HB2.out)
                      have pr0 := (HPR.out _ (HF2.out _ HB2.out)).1
                      have q6 := HQ6.out _ HB2.out
                      have qr0 := (HQR.out _ HB2.out).1
                      have qr1 := (HQR.out _ HB2.out).2
                      have k0 := cell_regrown (p6)
                      have k1 := cell_regrown (pr0)
                      have k2 := cell_regrown (q6)
                      have k3 := cell_regrown (qr0)
                      have k4 := cell_regrown (qr1)
                      clear p6 pr0 q6 qr0 qr1
                      refine wp_region_quiet_below (by kernel_rfl) (by kernel_rfl) ?_
                      repeat (first | go_big_quiet_step (fail) | quiet_step (fail))
                      refine wpQuiet_nil ?_
                      intro _ hw'
                      obtain ⟨⟨dq, osq⟩, hw''⟩ := hw'
                      subst hw''
                      have hb := below_regrown wr dq osq
                      obtain ⟨v1, hwi⟩ : ∃ u : World, Sort.grow (redrawn wr dq) osq = u := ⟨_, rfl⟩
                      rw [hwi] at hb ⊢
                      have HB3 : Hid (Below f2.heap.size f2 v1) := Lib.hid (HB2.out.trans (hb.mono HB2.out.size))
                      clear hwi hb HB2 k0 k1 k2 k3 k4
                      go_wp2_with fail
                      go_roundg (nr - (k + 1))
                      case measure => omega
                      case rel => exact ⟨k + 1, by go_num, rfl, by omega, HB3.out⟩
                    have hj' : (j : Int) < kl := by omega
                    obtain ⟨kj, hkj⟩ : ∃ z, KS[j]'(by rw [HKL2.out]; exact hj) = z := ⟨_, rfl⟩
                    have HAJ : Hid (∀ V, Below d8.heap.size d8 V → V.cell? ⟨ga, j, none⟩ = some (.int .i64 kj)) := Lib.hid (fun V hb => by
                      have h := (HMW.out V hb).row 1 rfl
                      rw [own_cell h j (by omega), List.getElem?_map, List.getElem?_eq_getElem (by rw [HKL2.out]; exact hj), hkj]; rfl)
                    have HBJ : Hid (∀ V, Below d8.heap.size d8 V → V.cell? ⟨gb, j, none⟩ = some (.int .i64 (m0 + (j : Int)))) := Lib.hid (fun V hb => by
                      obtain ⟨hkx, hkx2⟩ := HCK.out j (by exact hj)
                      have h := (HMW.out V hb).row 0 rfl
                      rw [own_cell h j (by omega), List.getElem?_map, List.getElem?_eq_getElem (by rw [HKLX.out]; exact hj), hkx2]; rfl)
                    have HWY : Hid (kj = t → wantJ m0 KS t (j + 1) = m0 + (j : Int)) := Lib.hid (fun e => wantJ_yes (by rw [HKL2.out]; exact hj) HND.out (hkj.trans e))
                    have HWN : Hid (kj ≠ t → wantJ m0 KS t (j + 1) = wantJ m0 KS t j) := Lib.hid (fun e => wantJ_no (by rw [HKL2.out]; exact hj) (by rw [hkj]; exact e))
                    obtain ⟨wj, hwj⟩ : ∃ z, wantJ m0 KS t j = z := ⟨_, rfl⟩
                    rw [hwj] at HWN ⊢
                    clear hkj hwj
                    have a6 := HAJ.out _ (HD8.out _ (HF2.out _ HB2.out))
                    have p6 := HP6.out _ (HF2.out _ HB2.out)
                    have pr1 := (HPR.out _ (HF2.out _ HB2.out)).2
                    go_upto_region 30 with fail
                    by_cases he : kj = t
                    · as_aux_lemma =>
                      have HW := Lib.hid (HWY.out he)
                      subst he
                      have k0 := cell_regrown (a6)
                      have k1 := cell_regrown (p6)
                      have k2 := cell_regrown (pr1)
                      clear a6 p6 pr1
                      refine wp_region_quiet_below (by kernel_rfl) (by kernel_rfl) ?_
                      repeat (first | go_big_quiet_step (fail) | quiet_step (fail))
                      refine wpQuiet_nil ?_
                      intro _ hw'
                      obtain ⟨⟨dq, osq⟩, hw''⟩ := hw'
                      subst hw''
                      have hb := below_regrown wr dq osq
                      obtain ⟨v1, hwi⟩ : ∃ u : World, Sort.grow (redrawn wr dq) osq = u := ⟨_, rfl⟩
                      rw [hwi] at hb ⊢
                      have HB3 : Hid (Below f2.heap.size f2 v1) := Lib.hid (HB2.out.trans (hb.mono HB2.out.size))
                      clear hwi hb HB2 k0 k1 k2
                      have b6 := HBJ.out _ (HD8.out _ (HF2.out _ HB3.out))
                      go_wp2_with fail
                      go_roundg (kl - (j + 1))
                      case measure => omega
                      case rel => exact ⟨j + 1, by rw [HW.out], by go_num, rfl, by omega, HB3.out⟩
                    · as_aux_lemma =>
                      have HW := Lib.hid (HWN.out he)
                      have ge : (kj == t) = false := by simp; exact he
                      clear he
                      have k0 := cell_regrown (a6)
                      have k1 := cell_regrown (p6)
                      have k2 := cell_regrown (pr1)
                      clear a6 p6 pr1
                      refine wp_region_quiet_below (by kernel_rfl) (by kernel_rfl) ?_
                      repeat (first | go_big_quiet_step (fail) | quiet_step (fail))
                      refine wpQuiet_nil ?_
                      intro _ hw'
                      obtain ⟨⟨dq, osq⟩, hw''⟩ := hw'
                      subst hw''
                      have hb := below_regrown wr dq osq
                      obtain ⟨v1, hwi⟩ : ∃ u : World, Sort.grow (redrawn wr dq) osq = u := ⟨_, rfl⟩
                      rw [hwi] at hb ⊢
                      have HB3 : Hid (Below f2.heap.size f2 v1) := Lib.hid (HB2.out.trans (hb.mono HB2.out.size))
                      clear hwi hb HB2 k0 k1 k2
                      go_wp2_with fail
                      go_roundg (kl - (j + 1))
                      case measure => omega
                      case rel => exact ⟨j + 1, by rw [HW.out], by go_num, rfl, by omega, HB3.out⟩
end Go.Proofs.Ytmafhaadcjgcbaa
