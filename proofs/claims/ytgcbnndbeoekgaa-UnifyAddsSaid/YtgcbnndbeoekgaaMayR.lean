import Derived.Test.YtgcbnndbeoekgaaFindB
import Derived.IntWalk
set_option linter.unusedSimpArgs false
set_option linter.unusedVariables false
/- may a bound be? as the document tells it -/
namespace Go.Proofs.Ytgcbnndbeoekgaa
open Go Go.RowKit

open Classical in
noncomputable def mayB (b : List ABind) : Bool := decide (MayP b)
open Classical in
theorem mayB_yes {b : List ABind} (h : MayP b) : mayB b = true := decide_eq_true h
open Classical in
theorem mayB_no {b : List ABind} (h : ¬ MayP b) : mayB b = false := decide_eq_false h
open Classical in
theorem mayB_iff {b : List ABind} : mayB b = true ↔ MayP b := decide_eq_true_iff
theorem first_hole : ∀ (l : List ABind) (h : Int), h ∈ l.map ABind.hole → ∃ m, ∃ hm : m < l.length, l[m].hole = h ∧ ∀ j (hj : j < l.length), j < m → l[j].hole ≠ h := by
  intro l h
  induction l with
  | nil => intro hm; cases hm
  | cons x r ih =>
    intro hm
    by_cases e : x.hole = h
    · exact ⟨0, by simp, e, fun j _ hj => absurd hj (by omega)⟩
    · simp only [List.map_cons, List.mem_cons] at hm
      obtain ⟨m, hm1, hm2, hm3⟩ := ih (hm.resolve_left (fun e2 => e e2.symm))
      refine ⟨m + 1, by simpa using hm1, by simpa using hm2, fun j hj hjm => ?_⟩
      cases j with
      | zero => exact e
      | succ j => simpa using hm3 j (by simpa using hj) (by omega)
theorem no_hole {l : List ABind} {h : Int} (hn : h ∉ l.map ABind.hole) : ∀ x ∈ l, x.hole ≠ h := fun x hx e => hn (e ▸ List.mem_map_of_mem hx)
/-- what of a bound's bindings is known -/
def BindTo (l : List ABind) (i : Nat) : Prop := ∀ j, j < i → BindAt l j ∧ ∀ h : j < l.length, RootAt l[j]
theorem BindTo.next {l : List ABind} {i : Nat} (h : BindTo l i) (h1 : BindAt l i) (h2 : ∀ hi : i < l.length, RootAt l[i]) : BindTo l (i + 1) := fun j hj => by
  by_cases e : j = i
  · subst e; exact ⟨h1, h2⟩
  · exact h j (by omega)
theorem BindTo.may {l : List ABind} {i : Nat} (h : BindTo l i) (hi : ¬ i < l.length) (hf : ∀ x ∈ l, FreeAt l x) : MayP l := by
  refine ⟨fun j hj => (h j (by omega)).1 hj, fun x hx => ⟨?_, hf x hx⟩⟩
  obtain ⟨j, hj, rfl⟩ := List.getElem_of_mem hx
  exact (h j (by omega)).2 hj
theorem RootAt.of {x : ABind} {t : TN} (h : x.term.head? = some t) (h1 : t.var ≤ x.hole) : RootAt x := fun t' e => by rw [h] at e; injection e with e; rw [← e]; exact h1

set_option maxRecDepth 100000 in
set_option maxHeartbeats 8000000 in
theorem rmay_any (A : Option Addr) (c : Nat) (l : List ABind) (w : World) (F : Nat → Prop) (hF : ∀ b, F b → b < w.heap.size) (hr : RowOf 2 EBind w F A l) (hlc : l.length ≤ c) (hc : c ≤ maxLen) (hz : ∀ x ∈ l, ∀ t ∈ x.term, t.name.size ≤ 9223372036854775807) :
    Calls Try.prog 28 #[.slice A l.length c] w fun e w' => e = .returned (.bool (mayB l)) ∧ Below w.heap.size w w' := by
  have HR := Lib.hid hr
  have HZ := Lib.hid hz
  have HRI : Hid (∀ i (hi : i < l.length) (S : Option Addr) (k : Nat) (w' : World), Below w.heap.size w w' → RowOf 3 ETN w F S l[i].term → l[i].term.length ≤ k → k ≤ maxLen → Calls Try.prog 29 #[.agg #[.slice S l[i].term.length k]] w' fun e w2 => e = .returned (.int .i64 (rightI l[i].term)) ∧ Below w'.heap.size w' w2) := Lib.hid (fun i hi S k w' hb hr' h1 h2 =>
    rright_any S k l[i].term w' F (fun b h => Nat.lt_of_lt_of_le (hF b h) hb.size) (hr'.keep ETN.stays (Keep.below hb hF) (fun _ h => h)) h1 h2 (hz _ (List.getElem_mem hi)))
  obtain ⟨r, hrr⟩ : ∃ r, mayB l = r := ⟨_, rfl⟩
  have HNO : Hid (¬ MayP l → r = false) := Lib.hid (fun h => by rw [← hrr]; exact mayB_no h)
  have HYES : Hid (MayP l → r = true) := Lib.hid (fun h => by rw [← hrr]; exact mayB_yes h)
  have hcm := hc
  rw [hrr]
  clear hrr hr hz
  unfold maxLen at hc
  have hll : l.length ≤ 9223372036854775807 := by omega
  go_enter Try.func28, Try.ntmps28
  go_wp2
  go_loopg [3] l.length (fun g s3 wx => ∃ i : Nat, s3 = .int .i64 i ∧ g = l.length - i ∧ i ≤ l.length ∧ BindTo l i ∧ Below w.heap.size w wx)
  case atStart => exact ⟨0, rfl, rfl, Nat.zero_le _, fun j hj => absurd hj (by omega), Below.refl _ _⟩
  case round =>
    obtain ⟨i, rfl, rfl, hi, hto, hb⟩ := hrel
    have HB := Lib.hid hb; have HTO := Lib.hid hto
    have i0 : (0 : Int) ≤ i := by omega
    clear hto
    by_cases hlt : i < l.length
    · obtain ⟨b, off, S, k, rfl, hbF, d0, d1, hk1, hk2, hrow⟩ := bind_at HR.out hlt
      have hbw := hF b hbF
      have d0 := (hb.cell (p := ⟨b, off + i * 2, none⟩) hbw).trans d0
      have d1 := (hb.cell (p := ⟨b, off + i * 2 + 1, none⟩) hbw).trans d1
      have hlt' : (i : Int) < l.length := by omega
      have HBIND : Hid (BindAt l i → (∀ hi : i < l.length, RootAt l[i]) → BindTo l (i + 1)) := Lib.hid (fun h1 h2 => HTO.out.next h1 h2)
      have HB0 : Hid (1 ≤ l[i].hole → l[i].hole ≤ 2147483647 → (0 < i → (l[i - 1]'(by omega)).hole < l[i].hole) → rightI l[i].term = 0 → BindAt l i) := Lib.hid (fun a1 a2 a3 a4 _ => ⟨a1, a2, a3, a4⟩)
      have HBX : Hid (¬ (1 ≤ l[i].hole ∧ l[i].hole ≤ 2147483647 ∧ (0 < i → (l[i - 1]'(by omega)).hole < l[i].hole) ∧ rightI l[i].term = 0) → r = false) := Lib.hid (fun h => HNO.out (fun hm => h (hm.1 i hlt)))
      have HRX : Hid (¬ RootAt l[i] → r = false) := Lib.hid (fun h => HNO.out (fun hm => h (hm.2 _ (List.getElem_mem hlt)).1))
      have HC := Lib.hid (fun w' hb' => HRI.out i hlt S k w' hb' hrow hk1 hk2)
      have hroot : rightI l[i].term = 0 → ∃ b2 off2 x t, S = some ⟨b2, off2, none⟩ ∧ F b2 ∧ l[i].term.head? = some t ∧ t.var = x ∧ w.cell? ⟨b2, off2, none⟩ = some (.int .i64 x) ∧ 0 < l[i].term.length := fun h0 => by
        obtain ⟨h1, h2⟩ := rightI_zero h0
        have h3 : 0 < l[i].term.length := by
          rcases Nat.eq_zero_or_pos l[i].term.length with e | e
          · rw [List.eq_nil_of_length_eq_zero e] at h2; have := h2.2; cases this
          · exact e
        obtain ⟨b2, off2, S2, c2, e, hF2, x0, _⟩ := nodes_at hrow h3
        exact ⟨b2, off2, l[i].term[0].var, l[i].term[0], e, hF2, by rw [List.head?_eq_getElem?, List.getElem?_eq_getElem h3], rfl, by simpa using x0, h3⟩
      have HROOT := Lib.hid hroot
      clear hb hroot hrow
      have HPREV : Hid (∀ j, i = j + 1 → ∃ p, (∀ hj : j < l.length, l[j].hole = p) ∧ ∃ b' off', some (⟨b, off, none⟩ : Addr) = some ⟨b', off', none⟩ ∧ wr.cell? ⟨b', off' + j * 2, none⟩ = some (.int .i64 p)) := Lib.hid (fun j e => by
        have hj : j < l.length := by omega
        obtain ⟨b', off', _, _, e', hF', y0, _⟩ := bind_at HR.out hj
        exact ⟨l[j].hole, fun _ => rfl, b', off', e', (HB.out.cell (p := ⟨b', off' + j * 2, none⟩) (hF b' hF')).trans y0⟩)
      obtain ⟨tm, htm⟩ : ∃ tm, l[i].term = tm := ⟨_, rfl⟩
      obtain ⟨h, hh⟩ : ∃ h, l[i].hole = h := ⟨_, rfl⟩
      have HRT : Hid (∀ t, tm.head? = some t → t.var ≤ h → RootAt l[i]) := Lib.hid (fun t e h1 => RootAt.of (by rw [htm]; exact e) (by rw [hh]; exact h1))
      have HRN : Hid (∀ t, tm.head? = some t → ¬ t.var ≤ h → ¬ RootAt l[i]) := Lib.hid (fun t e h1 hr => h1 (by rw [← hh]; exact hr t (by rw [htm]; exact e)))
      rw [htm] at d1 hk1 HC HROOT HB0 HBX
      rw [hh] at d0 HB0 HBX
      clear htm hh
      unfold maxLen at hk2
      have HRZ : Hid (∀ t, tm.head? = some t → t.var ≤ h → ∀ hi : i < l.length, RootAt l[i]) := Lib.hid (fun t e h1 _ => HRT.out t e h1)
      by_cases h1 : 1 ≤ h
      · have g1 : decide (h < 1) = false := decide_eq_false (by omega)
        by_cases h2 : h ≤ 2147483647
        · have g2 : decide ((2147483647 : Int) < h) = false := decide_eq_false (by omega)
          by_cases hi0 : i = 0
          · subst hi0
            have g0 : decide ((0 : Int) < ((0 : Nat) : Int)) = false := by decide
            simp only [Nat.zero_mul, Nat.add_zero, Nat.zero_add] at d0 d1
            have g3 : (0 : Int) < l.length := by omega
            by_cases hr0 : rightI tm = 0
            · have HR0 := Lib.hid hr0
              obtain ⟨b2, off2, x, t, rfl, hbF2, hth, hx, x0, htl⟩ := HROOT.out hr0
              rw [hr0] at HC
              subst hx
              have x0 := (HB.out.cell (p := ⟨b2, off2, none⟩) (hF b2 hbF2)).trans x0
              have htl' : (0 : Int) < tm.length := by omega
              generalize hxg : t.var = x at *
              have CW := Lib.hid (HC.out wr HB.out)
              clear hr0
              by_cases hxh : x ≤ h
              · have g9 : decide (h < x) = false := decide_eq_false (by omega)
                have HN := Lib.hid (HBIND.out (HB0.out (by omega) (by omega) (fun h => absurd h (by omega)) HR0.out) (HRZ.out t hth (by omega)))
                go_upto_region 4 with fail
                have k0 := cell_regrown (d0)
                have k1 := cell_regrown (d1)
                have k2 := cell_regrown (x0)
                have CH := Lib.hid (fun (d : Nat) (os : Array Obj) => Calls.regrown_of (w := wr) (d := d) (os := os) (HC.out _ (HB.out.trans ((below_regrown wr d os).mono HB.out.size))))
                refine wp_region_quiet_below (by kernel_rfl) (by kernel_rfl) ?_
                repeat (first | go_big_quiet_step (exact CH.out _ _) | quiet_step (exact CH.out _ _))
                refine wpQuiet_nil ?_
                intro _ hw'
                obtain ⟨⟨dq, osq⟩, hw''⟩ := hw'
                subst hw''
                have hbq := below_regrown wr dq osq
                go_wp2
                go_roundg (l.length - (0 + 1))
                case measure => omega
                case rel => exact ⟨0 + 1, by go_num, rfl, by omega, HN.out, HB.out.trans (hbq.mono HB.out.size)⟩
              · have g9 : h < x := by omega
                have HX : Hid (r = false) := Lib.hid (HRX.out (HRN.out t hth (by omega)))
                go_upto_region 4 with fail
                have k0 := cell_regrown (d0)
                have k1 := cell_regrown (d1)
                have k2 := cell_regrown (x0)
                have CH := Lib.hid (fun (d : Nat) (os : Array Obj) => Calls.regrown_of (w := wr) (d := d) (os := os) (HC.out _ (HB.out.trans ((below_regrown wr d os).mono HB.out.size))))
                refine wp_region_quiet_below (by kernel_rfl) (by kernel_rfl) ?_
                repeat (first | go_big_quiet_step (exact CH.out _ _) | quiet_step (exact CH.out _ _))
                refine wpQuiet_nil ?_
                intro _ hw'
                obtain ⟨⟨dq, osq⟩, hw''⟩ := hw'
                subst hw''
                have hbq := below_regrown wr dq osq
                go_wp2
                go_ret
                exact ⟨by rw [HX.out]; rfl, HB.out.trans (hbq.mono HB.out.size)⟩
            · have g8 : (rightI tm != 0) = true := by simp; exact hr0
              have HX : Hid (r = false) := Lib.hid (HBX.out (fun h => hr0 h.2.2.2))
              go_upto_region 4 with fail
              have k0 := cell_regrown (d0)
              have k1 := cell_regrown (d1)
              have CH := Lib.hid (fun (d : Nat) (os : Array Obj) => Calls.regrown_of (w := wr) (d := d) (os := os) (HC.out _ (HB.out.trans ((below_regrown wr d os).mono HB.out.size))))
              refine wp_region_quiet_below (by kernel_rfl) (by kernel_rfl) ?_
              repeat (first | go_big_quiet_step (exact CH.out _ _) | quiet_step (exact CH.out _ _))
              refine wpQuiet_nil ?_
              intro _ hw'
              obtain ⟨⟨dq, osq⟩, hw''⟩ := hw'
              subst hw''
              have hbq := below_regrown wr dq osq
              go_wp2
              go_ret
              exact ⟨by rw [HX.out]; rfl, HB.out.trans (hbq.mono HB.out.size)⟩
          · obtain ⟨j, rfl⟩ : ∃ j, i = j + 1 := ⟨i - 1, by omega⟩
            obtain ⟨p, hp, b', off', e', y0⟩ := HPREV.out j rfl
            injection e' with e'
            injection e' with e1 e2
            subst e1; subst e2
            have hpj := hp (by omega)
            have HPJ := Lib.hid hpj
            clear hp hpj
            have q1 : IntKind.i64.wrap (((j + 1 : Nat) : Int) - 1) = j := by rw [IntWalk.i64_in _ ⟨by omega, by omega⟩]; omega
            have q2 : (j : Int) < l.length := by omega
            have q3 : (0 : Int) ≤ j := by omega
            have q4 : (0 : Int) < ((j + 1 : Nat) : Int) := by omega
            have q7 : (j : Int) + 1 < l.length := by omega
            have q8 : (0 : Int) ≤ (j : Int) + 1 := by omega
            have q9 : ((j : Int) + 1).toNat = j + 1 := by omega
            have q5 : (0 : Int) < (j : Int) + 1 := by omega
            have q6 : IntKind.i64.wrap ((j : Int) + 1 - 1) = j := by rw [IntWalk.i64_in _ ⟨by omega, by omega⟩]; omega
            by_cases h3 : p < h
            · have g3 : decide (h ≤ p) = false := decide_eq_false (by omega)
              by_cases hr0 : rightI tm = 0
              · have HR0 := Lib.hid hr0
                obtain ⟨b2, off2, x, t, rfl, hbF2, hth, hx, x0, htl⟩ := HROOT.out hr0
                rw [hr0] at HC
                subst hx
                have x0 := (HB.out.cell (p := ⟨b2, off2, none⟩) (hF b2 hbF2)).trans x0
                have htl' : (0 : Int) < tm.length := by omega
                generalize hxg : t.var = x at *
                have CW := Lib.hid (HC.out wr HB.out)
                clear hr0
                by_cases hxh : x ≤ h
                · have g9 : decide (h < x) = false := decide_eq_false (by omega)
                  have HN := Lib.hid (HBIND.out (HB0.out (by omega) (by omega) (fun _ => by have e : l[j].hole = p := HPJ.out; simp only [Nat.add_sub_cancel]; rw [e]; exact h3) HR0.out) (HRZ.out t hth (by omega)))
                  go_upto_region 4 with fail
                  have k0 := cell_regrown (d0)
                  have k1 := cell_regrown (d1)
                  have k3 := cell_regrown (y0)
                  have k2 := cell_regrown (x0)
                  have CH := Lib.hid (fun (d : Nat) (os : Array Obj) => Calls.regrown_of (w := wr) (d := d) (os := os) (HC.out _ (HB.out.trans ((below_regrown wr d os).mono HB.out.size))))
                  refine wp_region_quiet_below (by kernel_rfl) (by kernel_rfl) ?_
                  repeat (first | go_big_quiet_step (exact CH.out _ _) | quiet_step (exact CH.out _ _))
                  refine wpQuiet_nil ?_
                  intro _ hw'
                  obtain ⟨⟨dq, osq⟩, hw''⟩ := hw'
                  subst hw''
                  have hbq := below_regrown wr dq osq
                  go_wp2
                  go_roundg (l.length - (j + 1 + 1))
                  case measure => omega
                  case rel => exact ⟨j + 1 + 1, by go_num, rfl, by omega, HN.out, HB.out.trans (hbq.mono HB.out.size)⟩
                · have g9 : h < x := by omega
                  have HX : Hid (r = false) := Lib.hid (HRX.out (HRN.out t hth (by omega)))
                  go_upto_region 4 with fail
                  have k0 := cell_regrown (d0)
                  have k1 := cell_regrown (d1)
                  have k3 := cell_regrown (y0)
                  have k2 := cell_regrown (x0)
                  have CH := Lib.hid (fun (d : Nat) (os : Array Obj) => Calls.regrown_of (w := wr) (d := d) (os := os) (HC.out _ (HB.out.trans ((below_regrown wr d os).mono HB.out.size))))
                  refine wp_region_quiet_below (by kernel_rfl) (by kernel_rfl) ?_
                  repeat (first | go_big_quiet_step (exact CH.out _ _) | quiet_step (exact CH.out _ _))
                  refine wpQuiet_nil ?_
                  intro _ hw'
                  obtain ⟨⟨dq, osq⟩, hw''⟩ := hw'
                  subst hw''
                  have hbq := below_regrown wr dq osq
                  go_wp2
                  go_ret
                  exact ⟨by rw [HX.out]; rfl, HB.out.trans (hbq.mono HB.out.size)⟩
              · have g8 : (rightI tm != 0) = true := by simp; exact hr0
                have HX : Hid (r = false) := Lib.hid (HBX.out (fun h => hr0 h.2.2.2))
                go_upto_region 4 with fail
                have k0 := cell_regrown (d0)
                have k1 := cell_regrown (d1)
                have k3 := cell_regrown (y0)
                have CH := Lib.hid (fun (d : Nat) (os : Array Obj) => Calls.regrown_of (w := wr) (d := d) (os := os) (HC.out _ (HB.out.trans ((below_regrown wr d os).mono HB.out.size))))
                refine wp_region_quiet_below (by kernel_rfl) (by kernel_rfl) ?_
                repeat (first | go_big_quiet_step (exact CH.out _ _) | quiet_step (exact CH.out _ _))
                refine wpQuiet_nil ?_
                intro _ hw'
                obtain ⟨⟨dq, osq⟩, hw''⟩ := hw'
                subst hw''
                have hbq := below_regrown wr dq osq
                go_wp2
                go_ret
                exact ⟨by rw [HX.out]; rfl, HB.out.trans (hbq.mono HB.out.size)⟩
            · have g3 : h ≤ p := by omega
              have HX : Hid (r = false) := Lib.hid (HBX.out (fun hh => h3 (by have e : l[j].hole = p := HPJ.out; have := hh.2.2.1 (by omega); simp only [Nat.add_sub_cancel] at this; rw [e] at this; exact this)))
              go_upto_region 4 with fail
              have k0 := cell_regrown (d0)
              have k1 := cell_regrown (d1)
              have k3 := cell_regrown (y0)
              refine wp_region_quiet_below (by kernel_rfl) (by kernel_rfl) ?_
              repeat (first | go_big_quiet_step (fail) | quiet_step (fail))
              refine wpQuiet_nil ?_
              intro _ hw'
              obtain ⟨⟨dq, osq⟩, hw''⟩ := hw'
              subst hw''
              have hbq := below_regrown wr dq osq
              go_wp2
              go_ret
              exact ⟨by rw [HX.out]; rfl, HB.out.trans (hbq.mono HB.out.size)⟩
        · have g2 : (2147483647 : Int) < h := by omega
          have HX : Hid (r = false) := Lib.hid (HBX.out (fun hh => h2 hh.2.1))
          go_upto_region 4 with fail
          have k0 := cell_regrown (d0)
          have k1 := cell_regrown (d1)
          refine wp_region_quiet_below (by kernel_rfl) (by kernel_rfl) ?_
          repeat (first | go_big_quiet_step (fail) | quiet_step (fail))
          refine wpQuiet_nil ?_
          intro _ hw'
          obtain ⟨⟨dq, osq⟩, hw''⟩ := hw'
          subst hw''
          have hbq := below_regrown wr dq osq
          go_wp2
          go_ret
          exact ⟨by rw [HX.out]; rfl, HB.out.trans (hbq.mono HB.out.size)⟩
      · have g1 : h < 1 := by omega
        have HX : Hid (r = false) := Lib.hid (HBX.out (fun hh => h1 hh.1))
        go_upto_region 4 with fail
        have k0 := cell_regrown (d0)
        have k1 := cell_regrown (d1)
        refine wp_region_quiet_below (by kernel_rfl) (by kernel_rfl) ?_
        repeat (first | go_big_quiet_step (fail) | quiet_step (fail))
        refine wpQuiet_nil ?_
        intro _ hw'
        obtain ⟨⟨dq, osq⟩, hw''⟩ := hw'
        subst hw''
        have hbq := below_regrown wr dq osq
        go_wp2
        go_ret
        exact ⟨by rw [HX.out]; rfl, HB.out.trans (hbq.mono HB.out.size)⟩
    · have hlt' : decide ((i : Int) < l.length) = false := decide_eq_false (by omega)
      go_wp2
      go_loopg [4] l.length (fun g s4 wx => ∃ n : Nat, s4 = .int .i64 n ∧ g = l.length - n ∧ n ≤ l.length ∧ (∀ x ∈ l.take n, FreeAt l x) ∧ Below w.heap.size w wx)
      case atStart => exact ⟨0, rfl, rfl, Nat.zero_le _, by simp, HB.out⟩
      case round =>
        clear HB hb
        obtain ⟨n, rfl, rfl, hn, hall, hb⟩ := hrel
        have HB := Lib.hid hb; have HALL := Lib.hid hall
        have n0 : (0 : Int) ≤ n := by omega
        clear hall
        by_cases hnl : n < l.length
        · have hnl' : (n : Int) < l.length := by omega
          obtain ⟨b, off, S, k, rfl, hbF, _, d1, hk1, hk2, hrow⟩ := bind_at HR.out hnl
          have hbw := hF b hbF
          have HROW := Lib.hid hrow
          have HD1 := Lib.hid d1
          have HFREE : Hid (FreeAt l l[n] → ∀ x ∈ l.take (n + 1), FreeAt l x) := Lib.hid (fun h x hx => by
            rw [List.take_succ_eq_append_getElem hnl] at hx
            rcases List.mem_append.1 hx with hx | hx
            · exact HALL.out x hx
            · simp only [List.mem_cons, List.not_mem_nil, or_false] at hx; subst hx; exact h)
          have HFX : Hid (∀ t ∈ l[n].term, t.var ∈ l.map ABind.hole → r = false) := Lib.hid (fun t ht h => HNO.out (fun hm => (hm.2 _ (List.getElem_mem hnl)).2 t ht h))
          have HFI : Hid ((∀ t ∈ l[n].term, t.var ∉ l.map ABind.hole) → FreeAt l l[n]) := Lib.hid (fun h => h)
          obtain ⟨fr, hfr⟩ : ∃ fr, FreeAt l l[n] = fr := ⟨_, rfl⟩
          rw [hfr] at HFREE HFI
          obtain ⟨tm, htm⟩ : ∃ tm, l[n].term = tm := ⟨_, rfl⟩
          rw [htm] at HROW hk1 HD1 HFX HFI
          clear htm hfr hrow d1 hb
          unfold maxLen at hk2
          go_upto_region 10 with fail
          go_loopg [5] tm.length (fun g s5 wx => ∃ j : Nat, s5 = .int .i64 j ∧ g = tm.length - j ∧ j ≤ tm.length ∧ (∀ t ∈ tm.take j, t.var ∉ l.map ABind.hole) ∧ Below w.heap.size w wx)
          case atStart => exact ⟨0, rfl, rfl, Nat.zero_le _, by simp, HB.out⟩
          case round =>
            clear HB
            obtain ⟨j, rfl, rfl, hj, hallj, hb⟩ := hrel
            have HB := Lib.hid hb; have HALLJ := Lib.hid hallj
            have j0 : (0 : Int) ≤ j := by omega
            have d1 := (hb.cell (p := ⟨b, off + n * 2 + 1, none⟩) hbw).trans HD1.out
            clear hallj
            by_cases hjl : j < tm.length
            · have hjl' : (j : Int) < tm.length := by omega
              obtain ⟨b2, off2, _, _, rfl, hbF2, x0, _⟩ := nodes_at HROW.out hjl
              have x0 := (hb.cell (p := ⟨b2, off2 + j * 3, none⟩) (hF b2 hbF2)).trans x0
              have HJ : Hid (tm[j].var ∉ l.map ABind.hole → ∀ t ∈ tm.take (j + 1), t.var ∉ l.map ABind.hole) := Lib.hid (fun h t ht => by
                rw [List.take_succ_eq_append_getElem hjl] at ht
                rcases List.mem_append.1 ht with ht | ht
                · exact HALLJ.out t ht
                · simp only [List.mem_cons, List.not_mem_nil, or_false] at ht; subst ht; exact h)
              have HJX := Lib.hid (HFX.out _ (List.getElem_mem hjl))
              generalize tm[j].var = x at *
              clear hb
              by_cases hin : x ∈ l.map ABind.hole
              · have HX : Hid (r = false) := Lib.hid (HJX.out hin)
                obtain ⟨m, hm, hm1, hm2⟩ := first_hole l x hin
                obtain ⟨b3, off3, S3, k3, e3, _, _, y1, _, _, _⟩ := bind_at HR.out hm
                injection e3 with e3
                injection e3 with e3 e4
                subst e3; subst e4
                have HFD := Lib.hid (fun w' (hb : Below w.heap.size w w') => rfind_yes b off c l x w' F (fun b h => Nat.lt_of_lt_of_le (hF b h) hb.size) (HR.out.keep EBind.stays (Keep.below hb hF) (fun _ h => h)) hlc hcm m hm hm1 hm2 S3 l[m].term.length k3 ((hb.cell (p := ⟨b, off + m * 2 + 1, none⟩) hbw).trans y1))
                clear hin hm1 hm2 y1
                go_wp2_with fail
                refine (HFD.out _ HB.out).mono ?_
                rintro _ w2 ⟨rfl, hb2⟩
                have HB2 := Lib.hid (HB.out.trans (hb2.mono HB.out.size))
                clear hb2 d1 x0
                go_wp2
                go_ret
                exact ⟨by rw [HX.out]; rfl, HB2.out.alloc HB2.out.size _⟩
              · have HX := Lib.hid (HJ.out hin)
                have HFD := Lib.hid (fun w' (hb : Below w.heap.size w w') => rfind_no (some ⟨b, off, none⟩) c l x w' F (fun b h => Nat.lt_of_lt_of_le (hF b h) hb.size) (HR.out.keep EBind.stays (Keep.below hb hF) (fun _ h => h)) hlc hcm (no_hole hin))
                clear hin
                go_wp2_with fail
                refine (HFD.out _ HB.out).mono ?_
                rintro _ w2 ⟨rfl, hb2⟩
                have HB2 := Lib.hid (HB.out.trans (hb2.mono HB.out.size))
                clear hb2 d1 x0
                go_wp2
                go_roundg (tm.length - (j + 1))
                case measure => omega
                case rel => exact ⟨j + 1, by go_num, rfl, by omega, HX.out, HB2.out.alloc HB2.out.size _⟩
            · have hjl' : decide ((j : Int) < tm.length) = false := decide_eq_false (by omega)
              have HX := Lib.hid (HFREE.out (by have := HALLJ.out; rw [List.take_of_length_le (by omega)] at this; exact HFI.out this))
              clear hb
              go_wp2
              go_roundg (l.length - (n + 1))
              case measure => omega
              case rel => exact ⟨n + 1, by go_num, rfl, by omega, HX.out, HB.out⟩
        · have hnl' : decide ((n : Int) < l.length) = false := decide_eq_false (by omega)
          have HX : Hid (r = true) := Lib.hid (HYES.out (HTO.out.may hlt (fun x hx => HALL.out x (by rw [List.take_of_length_le (by omega)]; exact hx))))
          go_wp2
          go_ret
          exact ⟨by rw [HX.out]; rfl, HB.out⟩
end Go.Proofs.Ytgcbnndbeoekgaa
