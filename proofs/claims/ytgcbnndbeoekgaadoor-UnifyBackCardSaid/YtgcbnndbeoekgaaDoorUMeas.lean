/- unify's web.measure: how great what a node stands for is; false: it goes round -/
import Derived.Test.YtgcbnndbeoekgaaDoorMeasP
import Derived.Test.YtgcbnndbeoekgaaDoorMeetA
import Derived.Test.YtgcbnndbeoekgaaDoorRegY
import Derived.Deep.LoopGhost
import Derived.StillTailTactics
import Derived.Deep.DeepCutAuto
import Derived.IntWalk
set_option linter.unusedSimpArgs false
set_option linter.unusedVariables false
namespace Go.Proofs.YtgcbnndbeoekgaaDoor
open Go Go.RowKit Go.Maps

theorem own_max {w : World} {base : Nat} {e : TypeId} {size n : Nat} {v : Value} {xs : List Value} (h : w.ownsRow base e size v n xs) : n ≤ maxLen := by
  rcases h.2 with ⟨_, h0⟩ | ⟨_, cap, _, _, _, _, h1, h2, _⟩
  · omega
  · omega

set_option maxRecDepth 100000 in
set_option maxHeartbeats 16000000 in
theorem umeas_any (B p mb : Nat) (tv : Value) (hm td : List (Nat × Nat)) (W : WebT) (r : Nat → Nat) (tm : Nat → Option Nat) (lo : Nat → Nat) (E : List (Fo × Fo)) (hU : USt W r tm lo [] E) (g n c : Nat) (hn : n ≤ 17179869184) (hc : n ≤ c) (hc2 : c ≤ maxLen) : ∀ (d : Nat) (w : World) (l : List PN) (G : Nat → Prop) (i : Nat), whites l r ≤ d → l.length = n → WebAt w B p (.slice (some ⟨g, 0, none⟩) n c) mb tv l hm td → PW W r tm lo l hm → Marks W r tm lo l G → (∀ g, G g → Part2 W r tm g i) → i < n →
    Calls Tryd.prog 46 #[.pointer (some ⟨p, 0, none⟩), .int .i64 i] w (SomeMeas w B p mb (.slice (some ⟨g, 0, none⟩) n c) tv hm td W r tm lo l G i) := by
  have HU := Lib.hid hU
  unfold maxLen at hc2
  clear hU
  intro d
  induction d using Nat.strongRecOn with
  | _ d ih =>
  intro w l G i hd hl hweb hpw hmk hG hi
  have HIH := Lib.hid ih
  have HL := Lib.hid hl; have HW := Lib.hid hweb; have HPW := Lib.hid hpw; have HMK := Lib.hid hmk; have HG := Lib.hid hG; have HD := Lib.hid hd
  clear ih hd hl hweb hpw hmk hG
  have HWN : Hid (W.n = n) := Lib.hid (by rw [HPW.out.len, HL.out])
  go_enter Tryd.func46, Tryd.ntmps46
  go_wp2_with fail
  refine (find_web HW.out HPW.out (by rw [HL.out]; omega) i (by rw [HL.out]; exact hi)).mono ?_
  rintro _ w2 ⟨rfl, l2, hg2, hw2, hu2, hp2⟩
  have HM2 : Hid (MeetM w B p mb (.slice (some ⟨g, 0, none⟩) n c) tv hm w2 tv l2 td) := Lib.hid ((MeetM.start HW.out).found hg2 hw2)
  have HP2 := Lib.hid hp2; have HU2 := Lib.hid hu2
  have HL2 : Hid (l2.length = n) := Lib.hid (hu2.1.trans HL.out)
  have HMK2 : Hid (Marks W r tm lo l2 G) := Lib.hid (HMK.out.ups hu2)
  have HR : Hid (r i < n ∧ r (r i) = r i) := Lib.hid (by
    obtain ⟨dd, hdd⟩ := hp2.uf
    rw [HL2.out] at hdd
    exact ⟨hdd.rlt i hi, hdd.idem hi⟩)
  clear hg2 hw2 hu2 hp2
  obtain ⟨x, hx⟩ : ∃ x, r i = x := ⟨_, rfl⟩
  have HX := Lib.hid hx
  rw [hx] at HR
  (try rw [hx])
  clear hx
  have hxl : x < l2.length := by rw [HL2.out]; exact HR.out.1
  have p0 := HM2.out.web.blk.cell 0
  have cs := HM2.out.web.nodes.rd hxl (k := 7) (by omega)
  obtain ⟨cs7, cs7f⟩ := cs
  simp only [PN.cells, List.getElem?_cons_succ, List.getElem?_cons_zero] at cs7
  simp at p0
  have hx0 : (0 : Int) ≤ x := by omega
  have hxn : (x : Int) < n := by have := HR.out.1; omega
  have HXL : Hid (x < l2.length) := Lib.hid hxl
  rcases HMK2.out.at_ x hxl HR.out.2 with ⟨hs, hng⟩ | ⟨hs, hgx⟩ | ⟨hs, hng, _⟩
  case inr.inl =>
    rw [hs] at cs7
    have HC : Hid (Cyc W r tm) := Lib.hid (Marks.cyc (by rw [HWN.out]; exact hi) HX.out HR.out.2 (HG.out x hgx))
    clear hs hgx
    go_wp2_with fail
    go_ret
    exact .inr ⟨rfl, HC.out, HM2.out.kb⟩
  case inr.inr =>
    rw [hs] at cs7
    have HS : Hid (seenOf l2 x = 2) := Lib.hid (by rw [seenOf_at HXL.out]; exact hs)
    clear hs hng
    go_wp2_with fail
    go_ret
    refine .inl ⟨rfl, l2, ⟨HM2.out, HP2.out, HMK2.out, HU2.out.same0, fun c _ h => by rw [seen_ups HU2.out]; exact h, whites_le HU2.out.1 (fun c _ h => by rw [seen_ups HU2.out] at h; exact h)⟩, by rw [HX.out]; exact HS.out⟩
  case inl =>
    have HNG := Lib.hid hng
    have HS0 : Hid (∃ h : x < l2.length, l2[x].seen = 0) := Lib.hid ⟨hxl, hs⟩
    rw [hs] at cs7
    clear hs hng
    go_upto_region 8 with fail
    clear p0 cs7 cs7f
    obtain ⟨l3, hl3⟩ : ∃ q, l2.set x { l2[x] with seen := 1 } = q := ⟨_, rfl⟩
    obtain ⟨w3, hw3⟩ : ∃ q, w2.setCell ⟨g, x * 9 + 7, none⟩ (.int .i64 1) = q := ⟨_, rfl⟩
    have HM3 : Hid (MeetM w B p mb (.slice (some ⟨g, 0, none⟩) n c) tv hm w3 tv l3 td) := Lib.hid (by rw [← hl3, ← hw3]; exact HM2.out.node HXL.out (k := 7) (by omega) rfl ⟨rfl, rfl⟩)
    have HP3 : Hid (PW W r tm lo l3 hm) := Lib.hid (by rw [← hl3]; exact HP2.out.mark HXL.out ⟨1, l2[x].size, rfl⟩)
    have HMK3 : Hid (Marks W r tm lo l3 (fun c => G c ∨ c = x)) := Lib.hid (by rw [← hl3]; exact HMK2.out.gray HXL.out HS0.out.2 rfl)
    have HL3 : Hid (l3.length = n) := Lib.hid (by rw [← hl3, List.length_set]; exact HL2.out)
    have HSM3 : Hid (Same0 l l3) := Lib.hid (by rw [← hl3]; exact HU2.out.same0.trans (same0_set HXL.out ⟨1, l2[x].size, rfl⟩))
    have HSN3 : Hid (∀ c, seenOf l3 c = if c = x then 1 else seenOf l c) := Lib.hid (fun c => by
      rw [← hl3]
      by_cases e : c = x
      · subst e; rw [if_pos rfl, seen_set HXL.out]
      · rw [if_neg e, seen_set_ne (Ne.symm e), seen_ups HU2.out])
    have HWL : Hid (whites l3 r < whites l r) := Lib.hid (by
      refine (whites_lt (l := l) (by rw [HL3.out, HL.out]) (fun c _ h => ?_) (x := x) (by rw [HL.out]; exact HR.out.1) HR.out.2 ?_ ?_)
      · rw [HSN3.out] at h
        by_cases e : c = x
        · rw [if_pos e] at h; cases h
        · rw [if_neg e] at h; exact h
      · rw [← seen_ups HU2.out, seenOf_at HXL.out]; exact HS0.out.2
      · rw [HSN3.out, if_pos rfl]; decide)
    have HWH : Hid (whites l3 r < d) := Lib.hid (Nat.lt_of_lt_of_le HWL.out HD.out)
    have hx3 : x < l3.length := by rw [HL3.out]; exact HR.out.1
    try rw [hw3]
    clear hw3 hl3 HM2 HP2 HMK2 HS0 HXL hxl HU2 HL2
    have p0 := HM3.out.web.blk.cell 0
    have c5 := (HM3.out.web.nodes.rd hx3 (k := 5) (by omega)).1
    simp only [PN.cells, List.getElem?_cons_succ, List.getElem?_cons_zero, HP3.out.term x hx3 HR.out.2] at c5
    simp at p0
    clear hx3
    cases hT : tm x with
    | none =>
      have HLAY : Hid (Lay W r tm lo x (.hole (lo x) .nil)) := Lib.hid (.hole x hT)
      rw [hT] at c5
      replace c5 : w3.cell? ⟨g, x * 9 + 5, none⟩ = some (.int .i64 (-1)) := c5
      clear hT
      have HMZ := HM3; have HPZ := HP3; have HMKZ := HMK3; have HQZ := HL3; have HSAMEZ := HSM3
      have HSEENZ : Hid (∀ cc, r cc = cc → cc ≠ x → seenOf l cc = 2 → seenOf l3 cc = 2) := Lib.hid (fun cc _ e h => by rw [HSN3.out, if_neg e]; exact h)
      have HLESSZ : Hid (whites l3 r ≤ whites l r) := Lib.hid (Nat.le_of_lt HWL.out)
      have HSZT : Hid ((1 : Nat) = min (Fo.hole (lo x) .nil).size 257) := Lib.hid rfl
      clear HM3 HP3 HMK3 HL3 HSM3
      have HXZ : Hid (x < l3.length) := Lib.hid (by rw [HQZ.out]; exact HR.out.1)
      have p0 := HMZ.out.web.blk.cell 0
      simp at p0
      obtain ⟨c8, c8f⟩ := HMZ.out.web.nodes.rd (i := x) HXZ.out (k := 8) (by omega)
      obtain ⟨z8, c8⟩ : ∃ z, w3.cell? ⟨g, x * 9 + 8, none⟩ = some z := ⟨_, c8⟩
      go_upto_region 18 with fail
      refine wp_region_Y (S := (fun w' : World => w'.cell? ⟨p, 0, none⟩ = some (.slice (some ⟨g, 0, none⟩) n c))) 16 (by kernel_rfl) (p0) (fun hHeld => ?_)
      refine wpAnyY_take (i := 0) (v := ?_) rfl (by kernel_rfl) (by kernel_rfl) (by kernel_rfl) (by kernel_rfl) (fun _ _ _ h => h) (Or.inl ⟨by rfl, ?_⟩) (by assumption) ?_
      rotate_left 1
      · (intro w' hSw; have s0 := hSw; go_simp); try with_reducible rfl
      try simp only [Act.put, List.setIfInBounds_toArray, List.set_cons_zero, List.set_cons_succ, Nat.zero_add]
      refine wpAnyY_take (i := 1) (v := ?_) rfl (by kernel_rfl) (by kernel_rfl) (by kernel_rfl) (by kernel_rfl) (fun _ _ _ h => h) (Or.inl ⟨by rfl, ?_⟩) (by assumption) ?_
      rotate_left 1
      · (intro w' hSw; have s0 := hSw; go_simp); try with_reducible rfl
      try simp only [Act.put, List.setIfInBounds_toArray, List.set_cons_zero, List.set_cons_succ, Nat.zero_add]
      refine wpAnyY_take (i := 2) (v := ?_) rfl (by kernel_rfl) (by kernel_rfl) (by kernel_rfl) (by kernel_rfl) (fun _ _ _ h => h) (Or.inl ⟨by rfl, ?_⟩) (by assumption) ?_
      rotate_left 1
      · (intro w' hSw; have s0 := hSw; go_simp); try with_reducible rfl
      try simp only [Act.put, List.setIfInBounds_toArray, List.set_cons_zero, List.set_cons_succ, Nat.zero_add]
      refine wpAnyY_take (i := 3) (v := ?_) rfl (by kernel_rfl) (by kernel_rfl) (by kernel_rfl) (by kernel_rfl) (fun _ _ _ h => h) (Or.inl ⟨by rfl, ?_⟩) (by assumption) ?_
      rotate_left 1
      · (intro w' hSw; have s0 := hSw; go_simp); try with_reducible rfl
      try simp only [Act.put, List.setIfInBounds_toArray, List.set_cons_zero, List.set_cons_succ, Nat.zero_add]
      refine wpAnyY_take (i := 4) (v := ?_) rfl (by kernel_rfl) (by kernel_rfl) (by kernel_rfl) (by kernel_rfl) (fun _ _ _ h => h) (Or.inl ⟨by rfl, ?_⟩) (by assumption) ?_
      rotate_left 1
      · (intro w' hSw; have s0 := hSw; go_simp); try with_reducible rfl
      try simp only [Act.put, List.setIfInBounds_toArray, List.set_cons_zero, List.set_cons_succ, Nat.zero_add]
      refine wpAnyY_take (i := 5) (v := ?_) rfl (by kernel_rfl) (by kernel_rfl) (by kernel_rfl) (by kernel_rfl) (fun _ _ _ h => h) (Or.inl ⟨by rfl, ?_⟩) (by assumption) ?_
      rotate_left 1
      · (intro w' hSw; have s0 := hSw; go_simp); try with_reducible rfl
      try simp only [Act.put, List.setIfInBounds_toArray, List.set_cons_zero, List.set_cons_succ, Nat.zero_add]
      refine wpAnyY_take (i := 6) (v := ?_) rfl (by kernel_rfl) (by kernel_rfl) (by kernel_rfl) (by kernel_rfl) (fun _ _ _ h => h) (Or.inl ⟨by rfl, ?_⟩) (by assumption) ?_
      rotate_left 1
      · (intro w' hSw; have s0 := hSw; go_simp); try with_reducible rfl
      try simp only [Act.put, List.setIfInBounds_toArray, List.set_cons_zero, List.set_cons_succ, Nat.zero_add]
      refine wpAnyY_take (i := 7) (v := ?_) rfl (by kernel_rfl) (by kernel_rfl) (by kernel_rfl) (by kernel_rfl) (fun _ _ _ h => h) (Or.inl ⟨by rfl, ?_⟩) (by assumption) ?_
      rotate_left 1
      · (intro w' hSw; have s0 := hSw; go_simp); try with_reducible rfl
      try simp only [Act.put, List.setIfInBounds_toArray, List.set_cons_zero, List.set_cons_succ, Nat.zero_add]
      refine wpAnyY_take (i := 8) (v := ?_) rfl (by kernel_rfl) (by kernel_rfl) (by kernel_rfl) (by kernel_rfl) (fun _ _ _ h => h) (Or.inl ⟨by rfl, ?_⟩) (by assumption) ?_
      rotate_left 1
      · (intro w' hSw; have s0 := hSw; go_simp); try with_reducible rfl
      try simp only [Act.put, List.setIfInBounds_toArray, List.set_cons_zero, List.set_cons_succ, Nat.zero_add]
      refine wpAnyY_take (i := 9) (v := ?_) rfl (by kernel_rfl) (by kernel_rfl) (by kernel_rfl) (by kernel_rfl) (fun _ _ _ h => h) (Or.inl ⟨by rfl, ?_⟩) (by assumption) ?_
      rotate_left 1
      · (intro w' hSw; have s0 := hSw; go_simp); try with_reducible rfl
      try simp only [Act.put, List.setIfInBounds_toArray, List.set_cons_zero, List.set_cons_succ, Nat.zero_add]
      refine wpAnyY_take (i := 10) (v := ?_) rfl (by kernel_rfl) (by kernel_rfl) (by kernel_rfl) (by kernel_rfl) (fun _ _ _ h => h) (Or.inl ⟨by rfl, ?_⟩) (by assumption) ?_
      rotate_left 1
      · (intro w' hSw; have s0 := hSw; go_simp); try with_reducible rfl
      try simp only [Act.put, List.setIfInBounds_toArray, List.set_cons_zero, List.set_cons_succ, Nat.zero_add]
      refine wpAnyY_take (i := 11) (v := ?_) rfl (by kernel_rfl) (by kernel_rfl) (by kernel_rfl) (by kernel_rfl) (fun _ _ _ h => h) (Or.inl ⟨by rfl, ?_⟩) (by assumption) ?_
      rotate_left 1
      · (intro w' hSw; have s0 := hSw; go_simp); try with_reducible rfl
      try simp only [Act.put, List.setIfInBounds_toArray, List.set_cons_zero, List.set_cons_succ, Nat.zero_add]
      refine wpAnyY_take (i := 12) (v := ?_) rfl (by kernel_rfl) (by kernel_rfl) (by kernel_rfl) (by kernel_rfl) (fun _ _ _ h => h) (Or.inl ⟨by rfl, ?_⟩) (by assumption) ?_
      rotate_left 1
      · (intro w' hSw; have s0 := hSw; go_simp); try with_reducible rfl
      try simp only [Act.put, List.setIfInBounds_toArray, List.set_cons_zero, List.set_cons_succ, Nat.zero_add]
      refine wpAnyY_one (i := 13) rfl (by kernel_rfl) (fun K hK => ?_)
      go_simp
      obtain ⟨wy, hwy⟩ : ∃ q : World, (World.setCell w3.drew ⟨g, x * 9 + 8, none⟩ (.int .i64 1)) = q := ⟨_, rfl⟩
      have HMY : Hid (MeetM w B p mb (.slice (some ⟨g, 0, none⟩) n c) tv hm wy tv (l3.set x { l3[x]'HXZ.out with size := 1 }) td) := Lib.hid (by rw [← hwy]; exact HMZ.out.drew.node HXZ.out (k := 8) (by omega) rfl ⟨rfl, rfl⟩)
      (try rw [hwy])
      (try rw [show (w3.setCell ⟨g, x * 9 + 8, none⟩ (.int .i64 1)).drew = wy from hwy])
      clear hwy p0 c8 c8f hHeld
      have p0 := HMY.out.web.blk.cell 0
      simp at p0
      obtain ⟨c7, c7f⟩ := HMY.out.web.nodes.rd (i := x) (by rw [List.length_set]; exact HXZ.out) (k := 7) (by omega)
      obtain ⟨z7, c7⟩ : ∃ z, wy.cell? ⟨g, x * 9 + 7, none⟩ = some z := ⟨_, c7⟩
      refine hK.out _ _ (fun _ => p0) ?_
      have hHeld2 : (fun w' : World => w'.cell? ⟨p, 0, none⟩ = some (.slice (some ⟨g, 0, none⟩) n c)) wy := p0
      clear hK K
      try simp only [Act.put, List.setIfInBounds_toArray, List.set_cons_zero, List.set_cons_succ, Nat.zero_add]
      refine wpAnyY_take0 (i := 14) (v := ?_) rfl (by kernel_rfl) (by kernel_rfl) (by kernel_rfl) (by kernel_rfl) (fun _ _ _ h => h) (Or.inl ⟨by rfl, ?_⟩) ?_
      rotate_left 1
      · (intro w' _; go_simp); try with_reducible rfl
      try simp only [Act.put, List.setIfInBounds_toArray, List.set_cons_zero, List.set_cons_succ, Nat.zero_add]
      refine wpAnyY_take (i := 15) (v := ?_) rfl (by kernel_rfl) (by kernel_rfl) (by kernel_rfl) (by kernel_rfl) (fun _ _ _ h => h) (Or.inl ⟨by rfl, ?_⟩) (by assumption) ?_
      rotate_left 1
      · (intro w' hSw; have s0 := hSw; go_simp); try with_reducible rfl
      try simp only [Act.put, List.setIfInBounds_toArray, List.set_cons_zero, List.set_cons_succ, Nat.zero_add]
      refine wpAnyY_one0 (i := 16) rfl (by kernel_rfl) (by kernel_rfl) (fun K hK => ?_)
      go_simp
      refine hK.out _ _ ?_
      clear hK K
      try simp only [Act.put, List.setIfInBounds_toArray, List.set_cons_zero, List.set_cons_succ, Nat.zero_add]
      refine wpAnyY_done (by kernel_rfl) ?_ _
      clear p0 c7 c7f hHeld2
      obtain ⟨wf, hwf⟩ : ∃ q : World, wy.setCell ⟨g, x * 9 + 7, none⟩ (.int .i64 2) = q := ⟨_, rfl⟩
      have HMF : Hid (MeetM w B p mb (.slice (some ⟨g, 0, none⟩) n c) tv hm wf tv (l3.set x { l3[x]'HXZ.out with size := 1, seen := 2 }) td) := Lib.hid (by
        rw [← hwf]
        have h := HMY.out.node (i := x) (by rw [List.length_set]; exact HXZ.out) (k := 7) (u := .int .i64 2) (x := { l3[x]'HXZ.out with size := 1, seen := 2 }) (by omega) (by rw [List.getElem_set_self]; rfl) (by rw [List.getElem_set_self]; exact ⟨rfl, rfl⟩)
        rw [List.set_set] at h
        exact h)
      try rw [hwf]
      clear hwf HMY
      go_wp2_with fail
      go_ret
      refine .inl ⟨rfl, _, ⟨HMF.out, HPZ.out.mark HXZ.out ⟨2, 1, rfl⟩, HMKZ.out.done HNG.out HLAY.out HXZ.out (by rw [← HSZT.out]), HSAMEZ.out.trans (same0_set HXZ.out ⟨2, 1, rfl⟩), fun cc hcc h2 => ?_, Nat.le_trans (whites_le (l := l3) (by rw [List.length_set]) (fun cc _ h0 => ?_)) HLESSZ.out⟩, by rw [HX.out, seen_set HXZ.out]⟩
      · by_cases e : cc = x
        · subst e; rw [seen_set HXZ.out]
        · rw [seen_set_ne (Ne.symm e)]; exact HSEENZ.out cc hcc e h2
      · by_cases e : cc = x
        · subst e; rw [seen_set HXZ.out] at h0; cases h0
        · rw [seen_set_ne (Ne.symm e)] at h0; exact h0
    | some t =>
      rw [hT] at c5
      replace c5 : w3.cell? ⟨g, x * 9 + 5, none⟩ = some (.int .i64 t) := c5
      obtain ⟨ht1, -, nm, ks, ht3⟩ := HU.out.some_ i t (by rw [HWN.out]; exact hi) (by rw [HX.out]; exact hT)
      rw [HWN.out] at ht1
      have HTT : Hid (t < n ∧ tm x = some t ∧ W.nd t = .app nm ks) := Lib.hid ⟨ht1, hT, ht3⟩
      have htl : t < l3.length := by rw [HL3.out]; exact ht1
      obtain ⟨e1, e2, e3⟩ := HP3.out.of_app htl ht3
      obtain ⟨q, hq⟩ : ∃ q, ks.length = q := ⟨_, rfl⟩
      have HQ := Lib.hid hq
      have hq63 : q ≤ 9223372036854775807 := by
        have h := own_max (HM3.out.web.nodes.args _ (List.getElem_mem htl))
        rw [e2, hq] at h; unfold maxLen at h; omega
      obtain ⟨As, ca, eav, earg⟩ := HM3.out.web.nodes.arg htl
      have HAV : Hid (∃ h : t < l3.length, l3[t].av = .slice As q ca ∧ l3[t].args = ks) := Lib.hid ⟨htl, by rw [eav, e2, hq], e2⟩
      have HAL : Hid (∀ k (hk : k < ks.length), ∃ g, As = some ⟨g, 0, none⟩) := Lib.hid (fun k hk => by
        obtain ⟨g', h1, _⟩ := earg k (by rw [e2]; exact hk)
        exact ⟨g', h1⟩)
      have c3 := (HM3.out.web.nodes.rd htl (k := 3) (by omega)).1
      simp only [PN.cells, List.getElem?_cons_succ, List.getElem?_cons_zero, HAV.out.2.1] at c3
      have ht0 : (0 : Int) ≤ t := by omega
      have htn : (t : Int) < n := by omega
      clear hT ht1 ht3 htl e1 e2 e3 hq eav earg
      go_upto_region 12 with fail
      clear c5 c3 p0
      go_loopg [6, 51] q (fun gh s6 s51 wx => ∃ (k : Nat) (l4 : List PN) (sz : Nat) (Ls : List Fo), s51 = .int .i64 k ∧ s6 = .int .i64 sz ∧ gh = q - k ∧ k ≤ q ∧ Measured w3 B p mb (.slice (some ⟨g, 0, none⟩) n c) tv hm td W r tm lo l3 (fun c => G c ∨ c = x) wx l4 ∧ LayL W r tm lo (ks.take k) Ls ∧ sz = min (1 + (ofL Ls).size) 257)
      case atStart => exact ⟨0, l3, 1, [], rfl, rfl, rfl, Nat.zero_le _, ⟨MeetM.start HM3.out.web, HP3.out, HMK3.out, Same0.refl _, fun _ _ h => h, Nat.le_refl _⟩, .nil, rfl⟩
      case round =>
        obtain ⟨k, l4, sz, Ls, rfl, rfl, rfl, hk, hME, hLL, hsz⟩ := hrel
        have HME := Lib.hid hME; have HLL := Lib.hid hLL; have HSZ := Lib.hid hsz
        have k0 : (0 : Int) ≤ k := by omega
        have hsz2 : sz ≤ 257 := by omega
        have s0 : (0 : Int) ≤ sz := by omega
        have HL4 : Hid (l4.length = n) := Lib.hid (hME.same.1.trans HL3.out)
        clear hME hLL hsz
        by_cases hkq : k < q
        · have hkq' : (k : Int) < q := by omega
          have hk1 : k < ks.length := by rw [HQ.out]; exact hkq
          obtain ⟨gs, egs⟩ := HAL.out k hk1
          subst egs
          obtain ⟨a, ha⟩ : ∃ a, ks[k] = a := ⟨_, rfl⟩
          have HA : Hid (∃ h : k < ks.length, ks[k] = a) := Lib.hid ⟨hk1, ha⟩
          have HAN : Hid (a ∈ ks ∧ a < n) := Lib.hid ⟨by rw [← ha]; exact List.getElem_mem hk1, by
            have := (HU.out.ok.app t nm ks (by rw [HWN.out]; exact HTT.out.1) HTT.out.2.2).1 a (by rw [← ha]; exact List.getElem_mem hk1)
            rw [HWN.out] at this; exact this⟩
          have htl4 : t < l4.length := by rw [HL4.out]; exact HTT.out.1
          have au : wr.cell? ⟨gs, k, none⟩ = some (.int .i64 a) := by
            obtain ⟨A, c', e, f⟩ := HME.out.mem.web.nodes.arg htl4
            have e9 := HME.out.same.2 t HAV.out.1 htl4
            have e10 : l4[t].args = ks := by rw [e9]; exact HAV.out.2.2
            have e11 : l4[t].av = .slice (some ⟨gs, 0, none⟩) q ca := by rw [e9]; exact HAV.out.2.1
            obtain ⟨g', e2, e3⟩ := f k (by rw [e10]; exact hk1)
            rw [e11] at e
            injection e with e _ _
            rw [e2] at e
            injection e with e
            injection e with e
            subst e
            rw [e3]
            simp only [e10, ha]
          have HCALL : Hid (Calls Tryd.prog 46 #[.pointer (some ⟨p, 0, none⟩), .int .i64 a] wr (SomeMeas wr B p mb (.slice (some ⟨g, 0, none⟩) n c) tv hm td W r tm lo l4 (fun c => G c ∨ c = x) a)) := Lib.hid (HIH.out (whites l4 r) (by have := HME.out.less; have := HWH.out; omega) wr l4 _ a (Nat.le_refl _) HL4.out HME.out.mem.web HME.out.pw HME.out.marks (fun g hg => by
            rcases hg with hg | hg
            · exact part2_step (HG.out g hg) (by rw [HWN.out]; exact hi) (by rw [HX.out]; exact HTT.out.2.1) HTT.out.2.2 HAN.out.1
            · rw [hg]; exact .one x t a nm ks (by rw [HWN.out]; exact HR.out.1) (by rw [HR.out.2]; exact HTT.out.2.1) HTT.out.2.2 HAN.out.1) HAN.out.2)
          clear ha hk1 htl4
          go_wp2_with fail
          clear au
          refine HCALL.out.mono ?_
          clear HCALL
          rintro _ w5 (⟨rfl, l5, hM5, hs5⟩ | ⟨rfl, hcy, hkb⟩)
          case inr =>
            have HCY := Lib.hid hcy; have HKB := Lib.hid hkb
            clear hcy hkb
            go_wp2_with fail
            go_ret
            exact .inr ⟨rfl, HCY.out, (HM3.out.kb.trans HME.out.mem.kb (fun _ e => .inl e)).trans HKB.out (fun _ e => .inl e)⟩
          case inl =>
            have HM5 : Hid (Measured w3 B p mb (.slice (some ⟨g, 0, none⟩) n c) tv hm td W r tm lo l3 (fun c => G c ∨ c = x) w5 l5) := Lib.hid ⟨HME.out.mem.then hM5.mem, hM5.pw, hM5.marks, HME.out.same.trans hM5.same, fun c hc h => hM5.seen c hc (HME.out.seen c hc h), Nat.le_trans hM5.less HME.out.less⟩
            have HL5 : Hid (l5.length = n) := Lib.hid (hM5.same.1.trans HL4.out)
            have HRA : Hid (r a < n ∧ r (r a) = r a) := Lib.hid (by
              obtain ⟨dd, hdd⟩ := hM5.pw.uf
              rw [HL5.out] at hdd
              exact ⟨hdd.rlt a HAN.out.2, hdd.idem HAN.out.2⟩)
            obtain ⟨ra, hra⟩ : ∃ z, r a = z := ⟨_, rfl⟩
            have HRAE := Lib.hid hra
            rw [hra] at hs5 HRA
            have hral : ra < l5.length := by rw [HL5.out]; exact HRA.out.1
            have hT5 : ∃ T, Lay W r tm lo ra T ∧ l5[ra].size = min T.size 257 := by
              rw [seenOf_at hral] at hs5
              rcases hM5.marks.at_ ra hral HRA.out.2 with ⟨h1, _⟩ | ⟨h1, _⟩ | ⟨_, _, h3⟩
              · rw [h1] at hs5; cases hs5
              · rw [h1] at hs5; cases hs5
              · exact h3
            obtain ⟨TT, hTT, hsz5⟩ := hT5
            have HTT5 := Lib.hid hTT
            obtain ⟨sa, hsa⟩ : ∃ z, l5[ra].size = z := ⟨_, rfl⟩
            have HSA : Hid (sa = min TT.size 257) := Lib.hid (by rw [← hsa]; exact hsz5)
            have hsa2 : sa ≤ 257 := by rw [hsa] at hsz5; omega
            have hsa1 : 1 ≤ sa := by have := hTT.size_pos; rw [hsa] at hsz5; omega
            have HCS : Hid (∃ h : ra < l5.length, l5[ra].size = sa) := Lib.hid ⟨hral, hsa⟩
            have p0 := HM5.out.mem.web.blk.cell 0
            have c8 := (HM5.out.mem.web.nodes.rd hral (k := 8) (by omega)).1
            simp only [PN.cells, List.getElem?_cons_succ, List.getElem?_cons_zero, hsa] at c8
            simp at p0
            have hra0 : (0 : Int) ≤ ra := by omega
            have hran : (ra : Int) < n := by have := HRA.out.1; omega
            have hsum : IntKind.i64.wrap ((sz : Int) + sa) = (sz : Int) + sa := IntWalk.i64_in _ (by omega)
            clear hM5 hs5 hra hral hTT hsz5 hsa HME
            go_upto_region 16 with fail
            refine wp_region_Y (S := (fun w' : World => w'.cell? ⟨p, 0, none⟩ = some (.slice (some ⟨g, 0, none⟩) n c) ∧ w'.cell? ⟨g, ra * 9 + 8, none⟩ = some (.int .i64 sa))) 13 (by kernel_rfl) (⟨p0, c8⟩) (fun hHeld => ?_)
            refine wpAnyY_take (i := 0) (v := ?_) rfl (by kernel_rfl) (by kernel_rfl) (by kernel_rfl) (by kernel_rfl) (fun _ _ _ h => h) (Or.inl ⟨by rfl, ?_⟩) (by assumption) ?_
            rotate_left 1
            · (intro w' hSw; obtain ⟨s0, s1⟩ := hSw; go_simp); try with_reducible rfl
            try simp only [Act.put, List.setIfInBounds_toArray, List.set_cons_zero, List.set_cons_succ, Nat.zero_add]
            refine wpAnyY_take (i := 1) (v := ?_) rfl (by kernel_rfl) (by kernel_rfl) (by kernel_rfl) (by kernel_rfl) (fun _ _ _ h => h) (Or.inl ⟨by rfl, ?_⟩) (by assumption) ?_
            rotate_left 1
            · (intro w' hSw; obtain ⟨s0, s1⟩ := hSw; go_simp); try with_reducible rfl
            try simp only [Act.put, List.setIfInBounds_toArray, List.set_cons_zero, List.set_cons_succ, Nat.zero_add]
            refine wpAnyY_take (i := 2) (v := ?_) rfl (by kernel_rfl) (by kernel_rfl) (by kernel_rfl) (by kernel_rfl) (fun _ _ _ h => h) (Or.inl ⟨by rfl, ?_⟩) (by assumption) ?_
            rotate_left 1
            · (intro w' hSw; obtain ⟨s0, s1⟩ := hSw; go_simp); try with_reducible rfl
            try simp only [Act.put, List.setIfInBounds_toArray, List.set_cons_zero, List.set_cons_succ, Nat.zero_add]
            refine wpAnyY_take (i := 3) (v := ?_) rfl (by kernel_rfl) (by kernel_rfl) (by kernel_rfl) (by kernel_rfl) (fun _ _ _ h => h) (Or.inl ⟨by rfl, ?_⟩) (by assumption) ?_
            rotate_left 1
            · (intro w' hSw; obtain ⟨s0, s1⟩ := hSw; go_simp); try with_reducible rfl
            try simp only [Act.put, List.setIfInBounds_toArray, List.set_cons_zero, List.set_cons_succ, Nat.zero_add]
            refine wpAnyY_take (i := 4) (v := ?_) rfl (by kernel_rfl) (by kernel_rfl) (by kernel_rfl) (by kernel_rfl) (fun _ _ _ h => h) (Or.inl ⟨by rfl, ?_⟩) (by assumption) ?_
            rotate_left 1
            · (intro w' hSw; obtain ⟨s0, s1⟩ := hSw; go_simp); try with_reducible rfl
            try simp only [Act.put, List.setIfInBounds_toArray, List.set_cons_zero, List.set_cons_succ, Nat.zero_add]
            refine wpAnyY_take (i := 5) (v := ?_) rfl (by kernel_rfl) (by kernel_rfl) (by kernel_rfl) (by kernel_rfl) (fun _ _ _ h => h) (Or.inl ⟨by rfl, ?_⟩) (by assumption) ?_
            rotate_left 1
            · (intro w' hSw; obtain ⟨s0, s1⟩ := hSw; go_simp); try with_reducible rfl
            try simp only [Act.put, List.setIfInBounds_toArray, List.set_cons_zero, List.set_cons_succ, Nat.zero_add]
            refine wpAnyY_take (i := 6) (v := ?_) rfl (by kernel_rfl) (by kernel_rfl) (by kernel_rfl) (by kernel_rfl) (fun _ _ _ h => h) (Or.inl ⟨by rfl, ?_⟩) (by assumption) ?_
            rotate_left 1
            · (intro w' hSw; obtain ⟨s0, s1⟩ := hSw; go_simp); try with_reducible rfl
            try simp only [Act.put, List.setIfInBounds_toArray, List.set_cons_zero, List.set_cons_succ, Nat.zero_add]
            refine wpAnyY_one (i := 7) rfl (by kernel_rfl) (fun K hK => ?_)
            go_simp
            refine (find_web HM5.out.mem.drew.web HM5.out.pw (by rw [HL5.out]; omega) a (by rw [HL5.out]; exact HAN.out.2)).mono ?_
            rintro _ w6 ⟨rfl, l6, hg6, hw6, hu6, hp6⟩
            have HM6 : Hid (Measured w3 B p mb (.slice (some ⟨g, 0, none⟩) n c) tv hm td W r tm lo l3 (fun c => G c ∨ c = x) w6 l6) := Lib.hid ⟨HM5.out.mem.drew.found hg6 hw6, hp6, HM5.out.marks.ups hu6, HM5.out.same.trans hu6.same0, fun c hc h => by rw [seen_ups hu6]; exact HM5.out.seen c hc h, Nat.le_trans (whites_le hu6.1 (fun c _ h => by rw [seen_ups hu6] at h; exact h)) HM5.out.less⟩
            have hra6 : ra < l6.length := by rw [hu6.1, HL5.out]; exact HRA.out.1
            have hsa6 : l6[ra].size = sa := by rw [hu6.2 ra HCS.out.1 hra6]; exact HCS.out.2
            clear hg6 hw6 hu6 hp6 HM5 p0 c8 hHeld
            have p0 := HM6.out.mem.web.blk.cell 0
            have c8 := (HM6.out.mem.web.nodes.rd hra6 (k := 8) (by omega)).1
            simp only [PN.cells, List.getElem?_cons_succ, List.getElem?_cons_zero, hsa6] at c8
            simp at p0
            clear hra6 hsa6
            try rw [HRAE.out]
            have hH6 : (fun w' : World => w'.cell? ⟨p, 0, none⟩ = some (.slice (some ⟨g, 0, none⟩) n c) ∧ w'.cell? ⟨g, ra * 9 + 8, none⟩ = some (.int .i64 sa)) w6 := ⟨p0, c8⟩
            refine hK.out _ _ (fun _ => hH6) ?_
            clear hK K
            try simp only [Act.put, List.setIfInBounds_toArray, List.set_cons_zero, List.set_cons_succ, Nat.zero_add]
            refine wpAnyY_take (i := 8) (v := ?_) rfl (by kernel_rfl) (by kernel_rfl) (by kernel_rfl) (by kernel_rfl) (fun _ _ _ h => h) (Or.inl ⟨by rfl, ?_⟩) (by assumption) ?_
            rotate_left 1
            · (intro w' hSw; obtain ⟨s0, s1⟩ := hSw; go_simp); try with_reducible rfl
            try simp only [Act.put, List.setIfInBounds_toArray, List.set_cons_zero, List.set_cons_succ, Nat.zero_add]
            refine wpAnyY_take (i := 9) (v := ?_) rfl (by kernel_rfl) (by kernel_rfl) (by kernel_rfl) (by kernel_rfl) (fun _ _ _ h => h) (Or.inl ⟨by rfl, ?_⟩) (by assumption) ?_
            rotate_left 1
            · (intro w' hSw; obtain ⟨s0, s1⟩ := hSw; go_simp); try with_reducible rfl
            try simp only [Act.put, List.setIfInBounds_toArray, List.set_cons_zero, List.set_cons_succ, Nat.zero_add]
            refine wpAnyY_take (i := 10) (v := ?_) rfl (by kernel_rfl) (by kernel_rfl) (by kernel_rfl) (by kernel_rfl) (fun _ _ _ h => h) (Or.inl ⟨by rfl, ?_⟩) (by assumption) ?_
            rotate_left 1
            · (intro w' hSw; obtain ⟨s0, s1⟩ := hSw; go_simp); try with_reducible rfl
            try simp only [Act.put, List.setIfInBounds_toArray, List.set_cons_zero, List.set_cons_succ, Nat.zero_add]
            refine wpAnyY_take (i := 11) (v := ?_) rfl (by kernel_rfl) (by kernel_rfl) (by kernel_rfl) (by kernel_rfl) (fun _ _ _ h => h) (Or.inl ⟨by rfl, ?_⟩) (by assumption) ?_
            rotate_left 1
            · (intro w' hSw; obtain ⟨s0, s1⟩ := hSw; go_simp); try with_reducible rfl
            try simp only [Act.put, List.setIfInBounds_toArray, List.set_cons_zero, List.set_cons_succ, Nat.zero_add]
            refine wpAnyY_take (i := 12) (v := ?_) rfl (by kernel_rfl) (by kernel_rfl) (by kernel_rfl) (by kernel_rfl) (fun _ _ _ h => h) (Or.inl ⟨by rfl, ?_⟩) (by assumption) ?_
            rotate_left 1
            · (intro w' hSw; obtain ⟨s0, s1⟩ := hSw; go_simp); try with_reducible rfl
            try simp only [Act.put, List.setIfInBounds_toArray, List.set_cons_zero, List.set_cons_succ, Nat.zero_add]
            refine wpAnyY_one0 (i := 13) rfl (by kernel_rfl) (by kernel_rfl) (fun K hK => ?_)
            go_simp
            refine hK.out _ _ ?_
            clear hK K
            try simp only [Act.put, List.setIfInBounds_toArray, List.set_cons_zero, List.set_cons_succ, Nat.zero_add]
            refine wpAnyY_done (by kernel_rfl) ?_ _
            clear p0 c8 hH6 hsum
            have e : (if (257 : Int) < (sz : Int) + (sa : Int) then (257 : Int) else (sz : Int) + (sa : Int)) = ((min (sz + sa) 257 : Nat) : Int) := by
              by_cases h : (257 : Int) < sz + sa
              · rw [if_pos h]; omega
              · rw [if_neg h]; omega
            rw [e]
            clear e
            obtain ⟨mn, hmn⟩ : ∃ z, min (sz + sa) 257 = z := ⟨_, rfl⟩
            have HMN := Lib.hid hmn
            rw [hmn]
            clear hmn
            go_wp2_with fail
            go_roundg (q - (k + 1))
            case measure => omega
            case rel =>
              refine ⟨k + 1, l6, mn, Ls ++ [TT], by go_num, rfl, rfl, by omega, HM6.out, ?_, ?_⟩
              · rw [List.take_succ_eq_append_getElem HA.out.1, HA.out.2]
                exact HLL.out.snoc (by rw [HRAE.out]; exact HTT5.out)
              · rw [ofL_snoc_size]
                have h1 := HSZ.out; have h2 := HSA.out; have h3 := HMN.out
                omega
        · have hkq' : ¬ (k : Int) < q := by omega
          have HLAY : Hid (Lay W r tm lo x (.app nm (ofL Ls) .nil)) := Lib.hid (by
            have h := HLL.out
            rw [List.take_of_length_le (by rw [HQ.out]; omega)] at h
            exact .app x t nm ks Ls HTT.out.2.1 HTT.out.2.2 h)
          have HMZ : Hid (MeetM w B p mb (.slice (some ⟨g, 0, none⟩) n c) tv hm wr tv l4 td) := Lib.hid (HM3.out.then HME.out.mem)
          have HPZ := Lib.hid HME.out.pw; have HMKZ := Lib.hid HME.out.marks; have HQZ := HL4
          have HSAMEZ := Lib.hid (HSM3.out.trans HME.out.same)
          have HSEENZ : Hid (∀ cc, r cc = cc → cc ≠ x → seenOf l cc = 2 → seenOf l4 cc = 2) := Lib.hid (fun cc hcc e h => HME.out.seen cc hcc (by rw [HSN3.out, if_neg e]; exact h))
          have HLESSZ : Hid (whites l4 r ≤ whites l r) := Lib.hid (Nat.le_trans HME.out.less (Nat.le_of_lt HWL.out))
          have HSZT : Hid (sz = min (Fo.app nm (ofL Ls) .nil).size 257) := Lib.hid (by rw [HSZ.out]; show min (1 + _) 257 = min (1 + _ + 0) 257; rw [Nat.add_zero])
          clear HM3 HP3 HMK3 HL3 HSM3 HME HL4
          have HXZ : Hid (x < l4.length) := Lib.hid (by rw [HQZ.out]; exact HR.out.1)
          have p0 := HMZ.out.web.blk.cell 0
          simp at p0
          obtain ⟨c8, c8f⟩ := HMZ.out.web.nodes.rd (i := x) HXZ.out (k := 8) (by omega)
          obtain ⟨z8, c8⟩ : ∃ z, wr.cell? ⟨g, x * 9 + 8, none⟩ = some z := ⟨_, c8⟩
          go_upto_region 18 with fail
          refine wp_region_Y (S := (fun w' : World => w'.cell? ⟨p, 0, none⟩ = some (.slice (some ⟨g, 0, none⟩) n c))) 16 (by kernel_rfl) (p0) (fun hHeld => ?_)
          refine wpAnyY_take (i := 0) (v := ?_) rfl (by kernel_rfl) (by kernel_rfl) (by kernel_rfl) (by kernel_rfl) (fun _ _ _ h => h) (Or.inl ⟨by rfl, ?_⟩) (by assumption) ?_
          rotate_left 1
          · (intro w' hSw; have s0 := hSw; go_simp); try with_reducible rfl
          try simp only [Act.put, List.setIfInBounds_toArray, List.set_cons_zero, List.set_cons_succ, Nat.zero_add]
          refine wpAnyY_take (i := 1) (v := ?_) rfl (by kernel_rfl) (by kernel_rfl) (by kernel_rfl) (by kernel_rfl) (fun _ _ _ h => h) (Or.inl ⟨by rfl, ?_⟩) (by assumption) ?_
          rotate_left 1
          · (intro w' hSw; have s0 := hSw; go_simp); try with_reducible rfl
          try simp only [Act.put, List.setIfInBounds_toArray, List.set_cons_zero, List.set_cons_succ, Nat.zero_add]
          refine wpAnyY_take (i := 2) (v := ?_) rfl (by kernel_rfl) (by kernel_rfl) (by kernel_rfl) (by kernel_rfl) (fun _ _ _ h => h) (Or.inl ⟨by rfl, ?_⟩) (by assumption) ?_
          rotate_left 1
          · (intro w' hSw; have s0 := hSw; go_simp); try with_reducible rfl
          try simp only [Act.put, List.setIfInBounds_toArray, List.set_cons_zero, List.set_cons_succ, Nat.zero_add]
          refine wpAnyY_take (i := 3) (v := ?_) rfl (by kernel_rfl) (by kernel_rfl) (by kernel_rfl) (by kernel_rfl) (fun _ _ _ h => h) (Or.inl ⟨by rfl, ?_⟩) (by assumption) ?_
          rotate_left 1
          · (intro w' hSw; have s0 := hSw; go_simp); try with_reducible rfl
          try simp only [Act.put, List.setIfInBounds_toArray, List.set_cons_zero, List.set_cons_succ, Nat.zero_add]
          refine wpAnyY_take (i := 4) (v := ?_) rfl (by kernel_rfl) (by kernel_rfl) (by kernel_rfl) (by kernel_rfl) (fun _ _ _ h => h) (Or.inl ⟨by rfl, ?_⟩) (by assumption) ?_
          rotate_left 1
          · (intro w' hSw; have s0 := hSw; go_simp); try with_reducible rfl
          try simp only [Act.put, List.setIfInBounds_toArray, List.set_cons_zero, List.set_cons_succ, Nat.zero_add]
          refine wpAnyY_take (i := 5) (v := ?_) rfl (by kernel_rfl) (by kernel_rfl) (by kernel_rfl) (by kernel_rfl) (fun _ _ _ h => h) (Or.inl ⟨by rfl, ?_⟩) (by assumption) ?_
          rotate_left 1
          · (intro w' hSw; have s0 := hSw; go_simp); try with_reducible rfl
          try simp only [Act.put, List.setIfInBounds_toArray, List.set_cons_zero, List.set_cons_succ, Nat.zero_add]
          refine wpAnyY_take (i := 6) (v := ?_) rfl (by kernel_rfl) (by kernel_rfl) (by kernel_rfl) (by kernel_rfl) (fun _ _ _ h => h) (Or.inl ⟨by rfl, ?_⟩) (by assumption) ?_
          rotate_left 1
          · (intro w' hSw; have s0 := hSw; go_simp); try with_reducible rfl
          try simp only [Act.put, List.setIfInBounds_toArray, List.set_cons_zero, List.set_cons_succ, Nat.zero_add]
          refine wpAnyY_take (i := 7) (v := ?_) rfl (by kernel_rfl) (by kernel_rfl) (by kernel_rfl) (by kernel_rfl) (fun _ _ _ h => h) (Or.inl ⟨by rfl, ?_⟩) (by assumption) ?_
          rotate_left 1
          · (intro w' hSw; have s0 := hSw; go_simp); try with_reducible rfl
          try simp only [Act.put, List.setIfInBounds_toArray, List.set_cons_zero, List.set_cons_succ, Nat.zero_add]
          refine wpAnyY_take (i := 8) (v := ?_) rfl (by kernel_rfl) (by kernel_rfl) (by kernel_rfl) (by kernel_rfl) (fun _ _ _ h => h) (Or.inl ⟨by rfl, ?_⟩) (by assumption) ?_
          rotate_left 1
          · (intro w' hSw; have s0 := hSw; go_simp); try with_reducible rfl
          try simp only [Act.put, List.setIfInBounds_toArray, List.set_cons_zero, List.set_cons_succ, Nat.zero_add]
          refine wpAnyY_take (i := 9) (v := ?_) rfl (by kernel_rfl) (by kernel_rfl) (by kernel_rfl) (by kernel_rfl) (fun _ _ _ h => h) (Or.inl ⟨by rfl, ?_⟩) (by assumption) ?_
          rotate_left 1
          · (intro w' hSw; have s0 := hSw; go_simp); try with_reducible rfl
          try simp only [Act.put, List.setIfInBounds_toArray, List.set_cons_zero, List.set_cons_succ, Nat.zero_add]
          refine wpAnyY_take (i := 10) (v := ?_) rfl (by kernel_rfl) (by kernel_rfl) (by kernel_rfl) (by kernel_rfl) (fun _ _ _ h => h) (Or.inl ⟨by rfl, ?_⟩) (by assumption) ?_
          rotate_left 1
          · (intro w' hSw; have s0 := hSw; go_simp); try with_reducible rfl
          try simp only [Act.put, List.setIfInBounds_toArray, List.set_cons_zero, List.set_cons_succ, Nat.zero_add]
          refine wpAnyY_take (i := 11) (v := ?_) rfl (by kernel_rfl) (by kernel_rfl) (by kernel_rfl) (by kernel_rfl) (fun _ _ _ h => h) (Or.inl ⟨by rfl, ?_⟩) (by assumption) ?_
          rotate_left 1
          · (intro w' hSw; have s0 := hSw; go_simp); try with_reducible rfl
          try simp only [Act.put, List.setIfInBounds_toArray, List.set_cons_zero, List.set_cons_succ, Nat.zero_add]
          refine wpAnyY_take (i := 12) (v := ?_) rfl (by kernel_rfl) (by kernel_rfl) (by kernel_rfl) (by kernel_rfl) (fun _ _ _ h => h) (Or.inl ⟨by rfl, ?_⟩) (by assumption) ?_
          rotate_left 1
          · (intro w' hSw; have s0 := hSw; go_simp); try with_reducible rfl
          try simp only [Act.put, List.setIfInBounds_toArray, List.set_cons_zero, List.set_cons_succ, Nat.zero_add]
          refine wpAnyY_one (i := 13) rfl (by kernel_rfl) (fun K hK => ?_)
          go_simp
          obtain ⟨wy, hwy⟩ : ∃ q : World, (World.setCell wr.drew ⟨g, x * 9 + 8, none⟩ (.int .i64 sz)) = q := ⟨_, rfl⟩
          have HMY : Hid (MeetM w B p mb (.slice (some ⟨g, 0, none⟩) n c) tv hm wy tv (l4.set x { l4[x]'HXZ.out with size := sz }) td) := Lib.hid (by rw [← hwy]; exact HMZ.out.drew.node HXZ.out (k := 8) (by omega) rfl ⟨rfl, rfl⟩)
          (try rw [hwy])
          (try rw [show (wr.setCell ⟨g, x * 9 + 8, none⟩ (.int .i64 sz)).drew = wy from hwy])
          clear hwy p0 c8 c8f hHeld
          have p0 := HMY.out.web.blk.cell 0
          simp at p0
          obtain ⟨c7, c7f⟩ := HMY.out.web.nodes.rd (i := x) (by rw [List.length_set]; exact HXZ.out) (k := 7) (by omega)
          obtain ⟨z7, c7⟩ : ∃ z, wy.cell? ⟨g, x * 9 + 7, none⟩ = some z := ⟨_, c7⟩
          refine hK.out _ _ (fun _ => p0) ?_
          have hHeld2 : (fun w' : World => w'.cell? ⟨p, 0, none⟩ = some (.slice (some ⟨g, 0, none⟩) n c)) wy := p0
          clear hK K
          try simp only [Act.put, List.setIfInBounds_toArray, List.set_cons_zero, List.set_cons_succ, Nat.zero_add]
          refine wpAnyY_take0 (i := 14) (v := ?_) rfl (by kernel_rfl) (by kernel_rfl) (by kernel_rfl) (by kernel_rfl) (fun _ _ _ h => h) (Or.inl ⟨by rfl, ?_⟩) ?_
          rotate_left 1
          · (intro w' _; go_simp); try with_reducible rfl
          try simp only [Act.put, List.setIfInBounds_toArray, List.set_cons_zero, List.set_cons_succ, Nat.zero_add]
          refine wpAnyY_take (i := 15) (v := ?_) rfl (by kernel_rfl) (by kernel_rfl) (by kernel_rfl) (by kernel_rfl) (fun _ _ _ h => h) (Or.inl ⟨by rfl, ?_⟩) (by assumption) ?_
          rotate_left 1
          · (intro w' hSw; have s0 := hSw; go_simp); try with_reducible rfl
          try simp only [Act.put, List.setIfInBounds_toArray, List.set_cons_zero, List.set_cons_succ, Nat.zero_add]
          refine wpAnyY_one0 (i := 16) rfl (by kernel_rfl) (by kernel_rfl) (fun K hK => ?_)
          go_simp
          refine hK.out _ _ ?_
          clear hK K
          try simp only [Act.put, List.setIfInBounds_toArray, List.set_cons_zero, List.set_cons_succ, Nat.zero_add]
          refine wpAnyY_done (by kernel_rfl) ?_ _
          clear p0 c7 c7f hHeld2
          obtain ⟨wf, hwf⟩ : ∃ q : World, wy.setCell ⟨g, x * 9 + 7, none⟩ (.int .i64 2) = q := ⟨_, rfl⟩
          have HMF : Hid (MeetM w B p mb (.slice (some ⟨g, 0, none⟩) n c) tv hm wf tv (l4.set x { l4[x]'HXZ.out with size := sz, seen := 2 }) td) := Lib.hid (by
            rw [← hwf]
            have h := HMY.out.node (i := x) (by rw [List.length_set]; exact HXZ.out) (k := 7) (u := .int .i64 2) (x := { l4[x]'HXZ.out with size := sz, seen := 2 }) (by omega) (by rw [List.getElem_set_self]; rfl) (by rw [List.getElem_set_self]; exact ⟨rfl, rfl⟩)
            rw [List.set_set] at h
            exact h)
          try rw [hwf]
          clear hwf HMY
          go_wp2_with fail
          go_ret
          refine .inl ⟨rfl, _, ⟨HMF.out, HPZ.out.mark HXZ.out ⟨2, sz, rfl⟩, HMKZ.out.done HNG.out HLAY.out HXZ.out (by rw [← HSZT.out]), HSAMEZ.out.trans (same0_set HXZ.out ⟨2, sz, rfl⟩), fun cc hcc h2 => ?_, Nat.le_trans (whites_le (l := l4) (by rw [List.length_set]) (fun cc _ h0 => ?_)) HLESSZ.out⟩, by rw [HX.out, seen_set HXZ.out]⟩
          · by_cases e : cc = x
            · subst e; rw [seen_set HXZ.out]
            · rw [seen_set_ne (Ne.symm e)]; exact HSEENZ.out cc hcc e h2
          · by_cases e : cc = x
            · subst e; rw [seen_set HXZ.out] at h0; cases h0
            · rw [seen_set_ne (Ne.symm e)] at h0; exact h0
end Go.Proofs.YtgcbnndbeoekgaaDoor
