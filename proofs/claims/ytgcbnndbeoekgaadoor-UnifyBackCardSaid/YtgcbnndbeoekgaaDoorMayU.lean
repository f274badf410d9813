/- may a bound be? as the program tells it -/
import Derived.Test.YtgcbnndbeoekgaaDoorMayR
import Derived.Test.YtgcbnndbeoekgaaDoorMapI
set_option linter.unusedSimpArgs false
set_option linter.unusedVariables false
namespace Go.Proofs.YtgcbnndbeoekgaaDoor
open Go Go.RowKit Go.Maps

/-- the bindings ahead are as they may be, each by itself -/
def BindTo1 (l : List ABind) (i : Nat) : Prop := ∀ j, j < i → BindAt l j
theorem BindTo1.next {l : List ABind} {i : Nat} (h : BindTo1 l i) (h1 : BindAt l i) : BindTo1 l (i + 1) := fun j hj => by
  by_cases e : j = i
  · subst e; exact h1
  · exact h j (by omega)
theorem BindTo1.rise {l : List ABind} {i : Nat} (h : BindTo1 l i) : ∀ k j (hk : k < l.length), k < i → ∀ hj : j < k, (l[j]'(by omega)).hole < l[k].hole := by
  intro k
  induction k with
  | zero => intro j _ _ hj; omega
  | succ k ih =>
    intro j hk hki hj
    have h1 := (h (k + 1) hki hk).2.2.1 (by omega)
    simp only [Nat.add_sub_cancel] at h1
    by_cases e : j = k
    · subst e; exact h1
    · have := ih j (by omega) (by omega) (by omega); omega
theorem BindTo1.rise2 {l : List ABind} {i : Nat} (h : BindTo1 l i) (hi : i < l.length) (h1 : 0 < i → (l[i - 1]'(by omega)).hole < l[i].hole) : ∀ j (hj : j < i), (l[j]'(by omega)).hole < l[i].hole := by
  intro j hj
  have h2 := h1 (by omega)
  by_cases e : j = i - 1
  · subst e; exact h2
  · have := h.rise (i - 1) j (by omega) (by omega) (by omega); omega
def holesTo (l : List ABind) (u : Value) (i : Nat) : List (Int × Value) := (l.take i).map fun x => (x.hole, u)
theorem holesTo_next {l : List ABind} {u : Value} {i : Nat} (h : i < l.length) : holesTo l u (i + 1) = holesTo l u i ++ [(l[i].hole, u)] := by
  unfold holesTo; rw [List.take_succ_eq_append_getElem h, List.map_append]; rfl
theorem holesTo_ne {l : List ABind} {u : Value} {i : Nat} (hi : i < l.length) (h : ∀ j (hj : j < i), (l[j]'(by omega)).hole < l[i].hole) : ∀ q ∈ holesTo l u i, q.1 ≠ l[i].hole := by
  intro q hq
  unfold holesTo at hq
  obtain ⟨x, hx, rfl⟩ := List.mem_map.1 hq
  obtain ⟨j, hj, rfl⟩ := List.mem_take_iff_getElem.1 hx
  have := h j (by omega)
  show l[j].hole ≠ l[i].hole
  omega
theorem holesTo_look {l : List ABind} {x : Int} : lookM (.int .i64 0) (holesTo l (.int .i64 1) l.length) x = if x ∈ l.map ABind.hole then .int .i64 1 else .int .i64 0 := by
  have he : holesTo l (.int .i64 1) l.length = l.map fun x => (x.hole, Value.int .i64 1) := by unfold holesTo; rw [List.take_length]
  rw [he]
  by_cases h : x ∈ l.map ABind.hole
  · rw [if_pos h]
    obtain ⟨y, hy, e⟩ := List.mem_map.1 h
    obtain ⟨p, hp, _, h2⟩ := lookM_mem (z := .int .i64 0) (bs := l.map fun x => (x.hole, Value.int .i64 1)) (id := x) ⟨(y.hole, .int .i64 1), List.mem_map_of_mem hy, e⟩
    rw [h2]
    obtain ⟨z, _, rfl⟩ := List.mem_map.1 hp
    rfl
  · rw [if_neg h]
    refine lookM_not fun p hp e => h ?_
    obtain ⟨z, hz, rfl⟩ := List.mem_map.1 hp
    rw [← e]; exact List.mem_map_of_mem hz
theorem may_of {l : List ABind} {i : Nat} (h : BindTo1 l i) (hi : ¬ i < l.length) (hf : ∀ x ∈ l, RootAt x ∧ FreeAt l x) : MayP l := ⟨fun j hj => h j (by omega) hj, hf⟩

set_option maxRecDepth 100000 in
set_option maxHeartbeats 8000000 in
theorem umay_any (A : Option Addr) (c : Nat) (l : List ABind) (w : World) (F : Nat → Prop) (hF : ∀ b, F b → b < w.heap.size) (hr : RowOf 2 EBind w F A l) (hlc : l.length ≤ c) (hc : c ≤ maxLen) (hlm : l.length ≤ 1048576) (hz : ∀ x ∈ l, ∀ t ∈ x.term, t.name.size ≤ 9223372036854775807 ∧ InI t.var) :
    Calls Tryd.prog 32 #[.slice A l.length c] w fun e w' => e = .returned (.bool (mayB l)) ∧ Below w.heap.size w w' := by
  have HR := Lib.hid hr
  have HZ := Lib.hid hz
  have HRI : Hid (∀ i (hi : i < l.length) (S : Option Addr) (k : Nat) (w' : World), Below w.heap.size w w' → RowOf 3 ETN w F S l[i].term → l[i].term.length ≤ k → k ≤ maxLen → Calls Tryd.prog 9 #[.agg #[.slice S l[i].term.length k]] w' fun e w2 => e = .returned (.int .i64 (rightI l[i].term)) ∧ Below w'.heap.size w' w2) := Lib.hid (fun i hi S k w' hb hr' h1 h2 =>
    uright_any S k l[i].term w' F (fun b h => Nat.lt_of_lt_of_le (hF b h) hb.size) (hr'.keep ETN.stays (Keep.below hb hF) (fun _ h => h)) h1 h2 (fun t ht => (hz _ (List.getElem_mem hi) t ht).1))
  obtain ⟨r, hrr⟩ : ∃ r, mayB l = r := ⟨_, rfl⟩
  have HNO : Hid (¬ MayP l → r = false) := Lib.hid (fun h => by rw [← hrr]; exact mayB_no h)
  have HYES : Hid (MayP l → r = true) := Lib.hid (fun h => by rw [← hrr]; exact mayB_yes h)
  rw [hrr]
  clear hrr hr hz
  unfold maxLen at hc
  have hll : l.length ≤ 9223372036854775807 := by omega
  have HM0 : Hid ((w.alloc (.map #[] 0)).ownsMap Tryd.prog 3 heldM w.heap.size 0 (.map [])) := Lib.hid (World.ownsMap_made w Tryd.prog 3 heldM)
  have hmm := @run_makeMap Tryd.prog
  go_enter Tryd.func32, Tryd.ntmps32
  go_upto_region 3 with fail
  clear hmm
  go_loopg [13] l.length (fun g s13 wx => ∃ (i : Nat) (D : DataW Value), s13 = .int .i64 i ∧ g = l.length - i ∧ i ≤ l.length ∧ BindTo1 l i ∧ Below w.heap.size w wx ∧ wx.ownsMap Tryd.prog 3 heldM w.heap.size i D ∧ MapV D (holesTo l (.int .i64 1) i))
  case atStart => exact ⟨0, _, rfl, rfl, Nat.zero_le _, fun j hj => absurd hj (by omega), (Below.refl _ _).alloc (Nat.le_refl _) _, HM0.out, MapV.start⟩
  case round =>
    clear HM0
    obtain ⟨i, D, rfl, rfl, hi, hto, hb, hown, hmv⟩ := hrel
    have HB := Lib.hid hb; have HTO := Lib.hid hto; have HMV := Lib.hid hmv; have HO := Lib.hid hown
    have i0 : (0 : Int) ≤ i := by omega
    have hwm := hown.lt
    clear hto hmv hown
    by_cases hlt : i < l.length
    · obtain ⟨b, off, S, k, rfl, hbF, d0, d1, hk1, hk2, hrow⟩ := bind_at HR.out hlt
      have hbw := hF b hbF
      have d0 := (hb.cell (p := ⟨b, off + i * 2, none⟩) hbw).trans d0
      have d1 := (hb.cell (p := ⟨b, off + i * 2 + 1, none⟩) hbw).trans d1
      have hlt' : (i : Int) < l.length := by omega
      have HBIND : Hid (BindAt l i → BindTo1 l (i + 1)) := Lib.hid (fun h1 => HTO.out.next h1)
      have HB0 : Hid (1 ≤ l[i].hole → l[i].hole ≤ 2147483647 → (0 < i → (l[i - 1]'(by omega)).hole < l[i].hole) → rightI l[i].term = 0 → BindAt l i) := Lib.hid (fun a1 a2 a3 a4 _ => ⟨a1, a2, a3, a4⟩)
      have HBX : Hid (¬ (1 ≤ l[i].hole ∧ l[i].hole ≤ 2147483647 ∧ (0 < i → (l[i - 1]'(by omega)).hole < l[i].hole) ∧ rightI l[i].term = 0) → r = false) := Lib.hid (fun h => HNO.out (fun hm => h (hm.1 i hlt)))
      have HNE : Hid ((0 < i → (l[i - 1]'(by omega)).hole < l[i].hole) → MapV (D.put (kM l[i].hole) (.held (.int .i64 1))) (holesTo l (.int .i64 1) (i + 1))) := Lib.hid (fun h => by
        rw [holesTo_next hlt]
        exact HMV.out.put (l[i].hole, .int .i64 1) (holesTo_ne hlt (HTO.out.rise2 hlt h)))
      have HC := Lib.hid (fun w' hb' => HRI.out i hlt S k w' hb' hrow hk1 hk2)
      have HPREV : Hid (∀ j, i = j + 1 → ∃ p, (∀ hj : j < l.length, l[j].hole = p) ∧ ∃ b' off', some (⟨b, off, none⟩ : Addr) = some ⟨b', off', none⟩ ∧ b' < w.heap.size ∧ wr.cell? ⟨b', off' + j * 2, none⟩ = some (.int .i64 p)) := Lib.hid (fun j e => by
        have hj : j < l.length := by omega
        obtain ⟨b', off', _, _, e', hF', y0, _⟩ := bind_at HR.out hj
        exact ⟨l[j].hole, fun _ => rfl, b', off', e', hF b' hF', (HB.out.cell (p := ⟨b', off' + j * 2, none⟩) (hF b' hF')).trans y0⟩)
      clear hb hrow
      obtain ⟨tm, htm⟩ : ∃ tm, l[i].term = tm := ⟨_, rfl⟩
      obtain ⟨h, hh⟩ : ∃ h, l[i].hole = h := ⟨_, rfl⟩
      rw [htm] at d1 hk1 HC HB0 HBX
      rw [hh] at d0 HB0 HBX HNE
      clear htm hh
      unfold maxLen at hk2
      obtain ⟨n, hn⟩ : ∃ n, tm.length = n := ⟨_, rfl⟩
      rw [hn] at d1 hk1 HC
      clear hn
      go_upto_region 5 with fail
      obtain ⟨q, hq⟩ : ∃ q, wr.heap.size = q := ⟨_, rfl⟩
      obtain ⟨u, hu⟩ : ∃ u : World, wr.alloc (.cells #[.int .i64 h, .slice S n k] 71) = u := ⟨_, rfl⟩
      have hbu : Below wr.heap.size wr u := by rw [← hu]; exact (Below.refl _ _).alloc (Nat.le_refl _) _
      have HBU := Lib.hid (HB.out.trans (hbu.mono HB.out.size))
      have HOU : Hid (u.ownsMap Tryd.prog 3 heldM w.heap.size i D) := Lib.hid (by rw [← hu]; exact HO.out.alloc _)
      have HTU : Hid (Blk u q 71 #[.int .i64 h, .slice S n k]) := Lib.hid (by rw [← hu]; exact Blk.new' hq.symm)
      have HPREV : Hid (∀ j, i = j + 1 → ∃ p, (∀ hj : j < l.length, l[j].hole = p) ∧ ∃ b' off', some (⟨b, off, none⟩ : Addr) = some ⟨b', off', none⟩ ∧ u.cell? ⟨b', off' + j * 2, none⟩ = some (.int .i64 p)) := Lib.hid (fun j e => by
        obtain ⟨p, h1, b', off', h2, h3, h4⟩ := HPREV.out j e
        exact ⟨p, h1, b', off', h2, (hbu.cell (p := ⟨b', off' + j * 2, none⟩) (by have := HB.out.size; show b' < wr.heap.size; omega)).trans h4⟩)
      have t0 := HTU.out.cell 0; have t1 := HTU.out.cell 1
      simp at t0 t1
      have HQ : Hid (w.heap.size < q) := Lib.hid (by omega)
      (try rw [hu])
      (try rw [hq])
      clear hbu hu hq HB HO d0 d1
      by_cases h1 : 1 ≤ h
      · have g1 : decide (h < 1) = false := decide_eq_false (by omega)
        by_cases h2 : h ≤ 2147483647
        · have g2 : decide ((2147483647 : Int) < h) = false := decide_eq_false (by omega)
          by_cases hi0 : i = 0
          · subst hi0
            have g0 : decide ((0 : Int) < ((0 : Nat) : Int)) = false := by decide
            have g3 : (0 : Int) < l.length := by omega
            by_cases hr0 : rightI tm = 0
            · have HR0 := Lib.hid hr0
              rw [hr0] at HC
              clear hr0
              have hin : InI h := ⟨by omega, by omega⟩
              have HN := Lib.hid (HBIND.out (HB0.out (by omega) (by omega) (fun h => absurd h (by omega)) HR0.out))
              have HMN := Lib.hid (HNE.out (fun h => absurd h (by omega)))
              have k0 := cell_regrown (t0)
              have k1 := cell_regrown (t1)
              have CH := Lib.hid (fun (d : Nat) (os : Array Obj) => Calls.regrown_of (w := u) (d := d) (os := os) (HC.out _ (HBU.out.trans ((below_regrown u d os).mono HBU.out.size))))
              refine wp_region_quiet_below (by kernel_rfl) (by kernel_rfl) ?_
              repeat (first | go_big_quiet_step (exact CH.out _ _) | quiet_step (exact CH.out _ _))
              refine wpQuiet_nil ?_
              intro _ hw'
              obtain ⟨⟨dq, osq⟩, hw''⟩ := hw'
              subst hw''
              obtain ⟨u2, hu2⟩ : ∃ u2 : World, Go.Sort.grow (redrawn u dq) osq = u2 := ⟨_, rfl⟩
              have hb2 : Below u.heap.size u u2 := by rw [← hu2]; exact below_regrown u dq osq
              have HB2 := Lib.hid (HBU.out.trans (hb2.mono HBU.out.size))
              have HO2 : Hid (u2.ownsMap Tryd.prog 3 heldM w.heap.size (0) D) := Lib.hid (HOU.out.kept (row := none) ⟨hb2.os, hb2.tape, hb2.output, hb2.size, fun k hk _ => hb2.block k hk⟩ (by simp))
              have s0 := (HTU.out.below hb2 HTU.out.lt).cell 0
              have hql := (HTU.out.below hb2 HTU.out.lt).lt
              simp at s0
              rw [hu2]
              clear hu2 hb2 t0 t1 k0 k1
              go_wp2_with (at_mapUpdate; refine wpList_mapUpdate_own _ rfl _ _ _ 82 rfl 3 3 lawM Tryd.underlying82 heldM w.heap.size (0) D rfl HO2.out (by unfold maxLen; omega) _ _ _ rfl rfl (keyM hin) _ [] rfl ?_)
              intro w3 hown3 hg3
              have HB3 := Lib.hid (HB2.out.grown hg3 HB2.out.size (fun k e => by cases e; exact Nat.le_refl _))
              have HO3 := Lib.hid hown3
              clear hown3 hg3 s0 hql
              go_wp2
              go_roundg (l.length - (0 + 1))
              case measure => omega
              case rel => exact ⟨0 + 1, _, by go_num, rfl, by omega, HN.out, HB3.out, HO3.out, HMN.out⟩
            · have g8 : (rightI tm != 0) = true := by simp; exact hr0
              have HX : Hid (r = false) := Lib.hid (HBX.out (fun h => hr0 h.2.2.2))
              have k0 := cell_regrown (t0)
              have k1 := cell_regrown (t1)
              have CH := Lib.hid (fun (d : Nat) (os : Array Obj) => Calls.regrown_of (w := u) (d := d) (os := os) (HC.out _ (HBU.out.trans ((below_regrown u d os).mono HBU.out.size))))
              refine wp_region_quiet_below (by kernel_rfl) (by kernel_rfl) ?_
              repeat (first | go_big_quiet_step (exact CH.out _ _) | quiet_step (exact CH.out _ _))
              refine wpQuiet_nil ?_
              intro _ hw'
              obtain ⟨⟨dq, osq⟩, hw''⟩ := hw'
              subst hw''
              obtain ⟨u2, hu2⟩ : ∃ u2 : World, Go.Sort.grow (redrawn u dq) osq = u2 := ⟨_, rfl⟩
              have hb2 : Below u.heap.size u u2 := by rw [← hu2]; exact below_regrown u dq osq
              have HB2 := Lib.hid (HBU.out.trans (hb2.mono HBU.out.size))
              rw [hu2]
              clear hu2 hb2
              go_wp2
              go_ret
              exact ⟨by rw [HX.out]; rfl, HB2.out⟩
          · obtain ⟨j, rfl⟩ : ∃ j, i = j + 1 := ⟨i - 1, by omega⟩
            obtain ⟨p, hp, b', off', e', y0⟩ := HPREV.out j rfl
            injection e' with e'
            injection e' with e1 e2
            subst e1; subst e2
            have hpj := hp (by omega)
            have HPJ := Lib.hid hpj
            clear hp hpj
            have q1 : IntKind.i64.wrap (((j + 1 : Nat) : Int) - 1) = j := by rw [IntWalk.i64_in _ ⟨by omega, by omega⟩]; omega
            have q2 : (j : Int) < l.length := by omega
            have q3 : (0 : Int) ≤ j := by omega
            have q4 : (0 : Int) < ((j + 1 : Nat) : Int) := by omega
            have q7 : (j : Int) + 1 < l.length := by omega
            have q8 : (0 : Int) ≤ (j : Int) + 1 := by omega
            have q9 : ((j : Int) + 1).toNat = j + 1 := by omega
            have q5 : (0 : Int) < (j : Int) + 1 := by omega
            have q6 : IntKind.i64.wrap ((j : Int) + 1 - 1) = j := by rw [IntWalk.i64_in _ ⟨by omega, by omega⟩]; omega
            by_cases h3 : p < h
            · have g3 : decide (h ≤ p) = false := decide_eq_false (by omega)
              by_cases hr0 : rightI tm = 0
              · have HR0 := Lib.hid hr0
                rw [hr0] at HC
                clear hr0
                have hin : InI h := ⟨by omega, by omega⟩
                have HN := Lib.hid (HBIND.out (HB0.out (by omega) (by omega) (fun _ => by have e : l[j].hole = p := HPJ.out; simp only [Nat.add_sub_cancel]; rw [e]; exact h3) HR0.out))
                have HMN := Lib.hid (HNE.out (fun _ => by have e : l[j].hole = p := HPJ.out; simp only [Nat.add_sub_cancel]; rw [e]; exact h3))
                have k0 := cell_regrown (t0)
                have k1 := cell_regrown (t1)
                have k3 := cell_regrown (y0)
                have CH := Lib.hid (fun (d : Nat) (os : Array Obj) => Calls.regrown_of (w := u) (d := d) (os := os) (HC.out _ (HBU.out.trans ((below_regrown u d os).mono HBU.out.size))))
                refine wp_region_quiet_below (by kernel_rfl) (by kernel_rfl) ?_
                repeat (first | go_big_quiet_step (exact CH.out _ _) | quiet_step (exact CH.out _ _))
                refine wpQuiet_nil ?_
                intro _ hw'
                obtain ⟨⟨dq, osq⟩, hw''⟩ := hw'
                subst hw''
                obtain ⟨u2, hu2⟩ : ∃ u2 : World, Go.Sort.grow (redrawn u dq) osq = u2 := ⟨_, rfl⟩
                have hb2 : Below u.heap.size u u2 := by rw [← hu2]; exact below_regrown u dq osq
                have HB2 := Lib.hid (HBU.out.trans (hb2.mono HBU.out.size))
                have HO2 : Hid (u2.ownsMap Tryd.prog 3 heldM w.heap.size (j + 1) D) := Lib.hid (HOU.out.kept (row := none) ⟨hb2.os, hb2.tape, hb2.output, hb2.size, fun k hk _ => hb2.block k hk⟩ (by simp))
                have s0 := (HTU.out.below hb2 HTU.out.lt).cell 0
                have hql := (HTU.out.below hb2 HTU.out.lt).lt
                simp at s0
                rw [hu2]
                clear hu2 hb2 t0 t1 k0 k1
                go_wp2_with (at_mapUpdate; refine wpList_mapUpdate_own _ rfl _ _ _ 82 rfl 3 3 lawM Tryd.underlying82 heldM w.heap.size (j + 1) D rfl HO2.out (by unfold maxLen; omega) _ _ _ rfl rfl (keyM hin) _ [] rfl ?_)
                intro w3 hown3 hg3
                have HB3 := Lib.hid (HB2.out.grown hg3 HB2.out.size (fun k e => by cases e; exact Nat.le_refl _))
                have HO3 := Lib.hid hown3
                clear hown3 hg3 s0 hql
                go_wp2
                go_roundg (l.length - (j + 1 + 1))
                case measure => omega
                case rel => exact ⟨j + 1 + 1, _, by go_num, rfl, by omega, HN.out, HB3.out, HO3.out, HMN.out⟩
              · have g8 : (rightI tm != 0) = true := by simp; exact hr0
                have HX : Hid (r = false) := Lib.hid (HBX.out (fun h => hr0 h.2.2.2))
                have k0 := cell_regrown (t0)
                have k1 := cell_regrown (t1)
                have k3 := cell_regrown (y0)
                have CH := Lib.hid (fun (d : Nat) (os : Array Obj) => Calls.regrown_of (w := u) (d := d) (os := os) (HC.out _ (HBU.out.trans ((below_regrown u d os).mono HBU.out.size))))
                refine wp_region_quiet_below (by kernel_rfl) (by kernel_rfl) ?_
                repeat (first | go_big_quiet_step (exact CH.out _ _) | quiet_step (exact CH.out _ _))
                refine wpQuiet_nil ?_
                intro _ hw'
                obtain ⟨⟨dq, osq⟩, hw''⟩ := hw'
                subst hw''
                obtain ⟨u2, hu2⟩ : ∃ u2 : World, Go.Sort.grow (redrawn u dq) osq = u2 := ⟨_, rfl⟩
                have hb2 : Below u.heap.size u u2 := by rw [← hu2]; exact below_regrown u dq osq
                have HB2 := Lib.hid (HBU.out.trans (hb2.mono HBU.out.size))
                rw [hu2]
                clear hu2 hb2
                go_wp2
                go_ret
                exact ⟨by rw [HX.out]; rfl, HB2.out⟩
            · have g3 : h ≤ p := by omega
              have HX : Hid (r = false) := Lib.hid (HBX.out (fun hh => h3 (by have e : l[j].hole = p := HPJ.out; have := hh.2.2.1 (by omega); simp only [Nat.add_sub_cancel] at this; rw [e] at this; exact this)))
              have k0 := cell_regrown (t0)
              have k1 := cell_regrown (t1)
              have k3 := cell_regrown (y0)
              refine wp_region_quiet_below (by kernel_rfl) (by kernel_rfl) ?_
              repeat (first | go_big_quiet_step (fail) | quiet_step (fail))
              refine wpQuiet_nil ?_
              intro _ hw'
              obtain ⟨⟨dq, osq⟩, hw''⟩ := hw'
              subst hw''
              obtain ⟨u2, hu2⟩ : ∃ u2 : World, Go.Sort.grow (redrawn u dq) osq = u2 := ⟨_, rfl⟩
              have hb2 : Below u.heap.size u u2 := by rw [← hu2]; exact below_regrown u dq osq
              have HB2 := Lib.hid (HBU.out.trans (hb2.mono HBU.out.size))
              rw [hu2]
              clear hu2 hb2
              go_wp2
              go_ret
              exact ⟨by rw [HX.out]; rfl, HB2.out⟩
        · have g2 : (2147483647 : Int) < h := by omega
          have HX : Hid (r = false) := Lib.hid (HBX.out (fun hh => h2 hh.2.1))
          have k0 := cell_regrown (t0)
          have k1 := cell_regrown (t1)
          refine wp_region_quiet_below (by kernel_rfl) (by kernel_rfl) ?_
          repeat (first | go_big_quiet_step (fail) | quiet_step (fail))
          refine wpQuiet_nil ?_
          intro _ hw'
          obtain ⟨⟨dq, osq⟩, hw''⟩ := hw'
          subst hw''
          obtain ⟨u2, hu2⟩ : ∃ u2 : World, Go.Sort.grow (redrawn u dq) osq = u2 := ⟨_, rfl⟩
          have hb2 : Below u.heap.size u u2 := by rw [← hu2]; exact below_regrown u dq osq
          have HB2 := Lib.hid (HBU.out.trans (hb2.mono HBU.out.size))
          rw [hu2]
          clear hu2 hb2
          go_wp2
          go_ret
          exact ⟨by rw [HX.out]; rfl, HB2.out⟩
      · have g1 : h < 1 := by omega
        have HX : Hid (r = false) := Lib.hid (HBX.out (fun hh => h1 hh.1))
        have k0 := cell_regrown (t0)
        have k1 := cell_regrown (t1)
        refine wp_region_quiet_below (by kernel_rfl) (by kernel_rfl) ?_
        repeat (first | go_big_quiet_step (fail) | quiet_step (fail))
        refine wpQuiet_nil ?_
        intro _ hw'
        obtain ⟨⟨dq, osq⟩, hw''⟩ := hw'
        subst hw''
        obtain ⟨u2, hu2⟩ : ∃ u2 : World, Go.Sort.grow (redrawn u dq) osq = u2 := ⟨_, rfl⟩
        have hb2 : Below u.heap.size u u2 := by rw [← hu2]; exact below_regrown u dq osq
        have HB2 := Lib.hid (HBU.out.trans (hb2.mono HBU.out.size))
        rw [hu2]
        clear hu2 hb2
        go_wp2
        go_ret
        exact ⟨by rw [HX.out]; rfl, HB2.out⟩
    · have hlt' : ¬ (i : Int) < l.length := by omega
      have hil : i = l.length := by omega
      have HMV2 : Hid (MapV D (holesTo l (.int .i64 1) l.length)) := Lib.hid (by have := HMV.out; rw [hil] at this; exact this)
      clear hil
      go_upto_region 10 with fail
      go_loopg [53] l.length (fun g s53 wx => ∃ n : Nat, s53 = .int .i64 n ∧ g = l.length - n ∧ n ≤ l.length ∧ (∀ x ∈ l.take n, RootAt x ∧ FreeAt l x) ∧ Below w.heap.size w wx ∧ wx.ownsMap Tryd.prog 3 heldM w.heap.size i D)
      case atStart => exact ⟨0, rfl, rfl, Nat.zero_le _, by simp, HB.out, HO.out⟩
      case round =>
        clear HB HO hb
        obtain ⟨m, rfl, rfl, hm, hall, hb, hown⟩ := hrel
        have HB := Lib.hid hb; have HALL := Lib.hid hall; have HO := Lib.hid hown
        have m0 : (0 : Int) ≤ m := by omega
        clear hall hown
        by_cases hml : m < l.length
        · have hml' : (m : Int) < l.length := by omega
          obtain ⟨b, off, S, k, rfl, hbF, d0, d1, hk1, hk2, hrow⟩ := bind_at HR.out hml
          have hbw := hF b hbF
          have d0 := (hb.cell (p := ⟨b, off + m * 2, none⟩) hbw).trans d0
          have d1 := (hb.cell (p := ⟨b, off + m * 2 + 1, none⟩) hbw).trans d1
          have HROW := Lib.hid hrow
          have htl : 0 < l[m].term.length := by
            have h0 := (HTO.out m (by omega) hml).2.2.2
            obtain ⟨_, h2⟩ := rightI_zero h0
            rcases Nat.eq_zero_or_pos l[m].term.length with e | e
            · rw [List.eq_nil_of_length_eq_zero e] at h2; have := h2.2; cases this
            · exact e
          obtain ⟨b2, off2, S2, c2, rfl, hbF2, x0, _⟩ := nodes_at hrow htl
          have hbw2 := hF b2 hbF2
          have x0 := (hb.cell (p := ⟨b2, off2 + 0 * 3, none⟩) hbw2).trans x0
          simp only [Nat.zero_mul, Nat.add_zero] at x0
          have HFREE : Hid (RootAt l[m] → FreeAt l l[m] → ∀ x ∈ l.take (m + 1), RootAt x ∧ FreeAt l x) := Lib.hid (fun h1 h2 x hx => by
            rw [List.take_succ_eq_append_getElem hml] at hx
            rcases List.mem_append.1 hx with hx | hx
            · exact HALL.out x hx
            · simp only [List.mem_cons, List.not_mem_nil, or_false] at hx; subst hx; exact ⟨h1, h2⟩)
          have HFX : Hid (∀ t ∈ l[m].term, t.var ∈ l.map ABind.hole → r = false) := Lib.hid (fun t ht h => HNO.out (fun hm => (hm.2 _ (List.getElem_mem hml)).2 t ht h))
          have HRX : Hid (¬ RootAt l[m] → r = false) := Lib.hid (fun h => HNO.out (fun hm => h (hm.2 _ (List.getElem_mem hml)).1))
          have HFI : Hid ((∀ t ∈ l[m].term, t.var ∉ l.map ABind.hole) → FreeAt l l[m]) := Lib.hid (fun h => h)
          have HIN : Hid (∀ t ∈ l[m].term, InI t.var) := Lib.hid (fun t ht => (HZ.out _ (List.getElem_mem hml) t ht).2)
          have hth : l[m].term.head? = some l[m].term[0] := by rw [List.head?_eq_getElem?, List.getElem?_eq_getElem htl]
          have HRY : Hid (l[m].term[0].var ≤ l[m].hole → RootAt l[m]) := Lib.hid (fun h => RootAt.of hth h)
          have HRN : Hid (¬ l[m].term[0].var ≤ l[m].hole → ¬ RootAt l[m]) := Lib.hid (fun h hr => h (hr _ hth))
          obtain ⟨xv, hxv⟩ : ∃ xv, l[m].term[0].var = xv := ⟨_, rfl⟩
          obtain ⟨hv, hhv⟩ : ∃ hv, l[m].hole = hv := ⟨_, rfl⟩
          rw [hxv] at x0 HRY HRN
          rw [hhv] at d0 HRY HRN
          clear hxv hhv hth
          obtain ⟨ro, hro⟩ : ∃ ro, RootAt l[m] = ro := ⟨_, rfl⟩
          obtain ⟨fr, hfr⟩ : ∃ fr, FreeAt l l[m] = fr := ⟨_, rfl⟩
          rw [hro] at HRX HRY HRN HFREE
          rw [hfr] at HFREE HFI
          obtain ⟨tm, htm⟩ : ∃ tm, l[m].term = tm := ⟨_, rfl⟩
          rw [htm] at HROW hk1 d1 HFX HFI HIN htl
          clear htm hfr hro hrow
          unfold maxLen at hk2
          have htl' : (0 : Int) < tm.length := by omega
          go_upto_region 12 with fail
          obtain ⟨q, hq⟩ : ∃ q, wr.heap.size = q := ⟨_, rfl⟩
          obtain ⟨u, hu⟩ : ∃ u : World, wr.alloc (.cells #[.int .i64 hv, .slice (some ⟨b2, off2, none⟩) tm.length k] 71) = u := ⟨_, rfl⟩
          have hbu : Below wr.heap.size wr u := by rw [← hu]; exact (Below.refl _ _).alloc (Nat.le_refl _) _
          have HBU := Lib.hid (HB.out.trans (hbu.mono HB.out.size))
          have HOU : Hid (u.ownsMap Tryd.prog 3 heldM w.heap.size i D) := Lib.hid (by rw [← hu]; exact HO.out.alloc _)
          have HTU : Hid (Blk u q 71 #[.int .i64 hv, .slice (some ⟨b2, off2, none⟩) tm.length k]) := Lib.hid (by rw [← hu]; exact Blk.new' hq.symm)
          have x0 := (hbu.cell (p := ⟨b2, off2, none⟩) (by have := HB.out.size; show b2 < wr.heap.size; omega)).trans x0
          have t0 := HTU.out.cell 0; have t1 := HTU.out.cell 1
          simp at t0 t1
          (try rw [hu])
          (try rw [hq])
          clear hbu hu hq HB HO hb d0 d1
          by_cases hxh : xv ≤ hv
          · have HRT := Lib.hid (HRY.out hxh)
            have g1 : decide (hv < xv) = false := decide_eq_false (by omega)
            have g1' : ¬ hv < xv := by omega
            clear hxh
            go_quiet (fail)
            go_upto_region 15 with fail
            clear x0 t0 t1
            go_loopg [70] tm.length (fun g s70 wx => ∃ j : Nat, s70 = .int .i64 j ∧ g = tm.length - j ∧ j ≤ tm.length ∧ (∀ t ∈ tm.take j, t.var ∉ l.map ABind.hole) ∧ Below w.heap.size w wx ∧ wx.ownsMap Tryd.prog 3 heldM w.heap.size i D)
            case atStart => exact ⟨0, rfl, rfl, Nat.zero_le _, by simp, bel_drewN HBU.out _, HOU.out⟩
            case round =>
              clear HBU HOU HTU
              obtain ⟨j, rfl, rfl, hj, hallj, hb, hown⟩ := hrel
              have HB := Lib.hid hb; have HALLJ := Lib.hid hallj; have HO := Lib.hid hown
              have j0 : (0 : Int) ≤ j := by omega
              clear hallj hown
              by_cases hjl : j < tm.length
              · have hjl' : (j : Int) < tm.length := by omega
                obtain ⟨b3, off3, S3, k3, e3, hbF3, y0, y1, y2, _, _, _⟩ := nodes_at HROW.out hjl
                injection e3 with e3
                injection e3 with e3 e4
                subst e3; subst e4
                have y0 := (hb.cell (p := ⟨b2, off2 + j * 3, none⟩) hbw2).trans y0
                have y1 := (hb.cell (p := ⟨b2, off2 + j * 3 + 1, none⟩) hbw2).trans y1
                have y2 := (hb.cell (p := ⟨b2, off2 + j * 3 + 2, none⟩) hbw2).trans y2
                have HJ : Hid (tm[j].var ∉ l.map ABind.hole → ∀ t ∈ tm.take (j + 1), t.var ∉ l.map ABind.hole) := Lib.hid (fun h t ht => by
                  rw [List.take_succ_eq_append_getElem hjl] at ht
                  rcases List.mem_append.1 ht with ht | ht
                  · exact HALLJ.out t ht
                  · simp only [List.mem_cons, List.not_mem_nil, or_false] at ht; subst ht; exact h)
                have HJX := Lib.hid (HFX.out _ (List.getElem_mem hjl))
                have hin := HIN.out _ (List.getElem_mem hjl)
                obtain ⟨t, ht⟩ : ∃ t, tm[j] = t := ⟨_, rfl⟩
                rw [ht] at y0 y1 y2 HJ HJX hin
                clear ht hb
                obtain ⟨x, y, la⟩ := t
                simp only at y0 y1 y2 hin
                have hlk := look_run (z := .int .i64 0) (HO.out.alloc (.cells #[.int .i64 x, .string y, .slice S3 la.length k3] 58)) HMV2.out Tryd.underlying82 (zero_int _) hin
                rw [holesTo_look] at hlk
                clear hin
                by_cases hxin : x ∈ l.map ABind.hole
                · have HX : Hid (r = false) := Lib.hid (HJX.out hxin)
                  rw [if_pos hxin] at hlk
                  clear hxin
                  go_wp2
                  go_ret
                  exact ⟨by rw [HX.out]; rfl, HB.out.alloc HB.out.size _⟩
                · have HX := Lib.hid (HJ.out hxin)
                  rw [if_neg hxin] at hlk
                  clear hxin
                  go_wp2
                  go_roundg (tm.length - (j + 1))
                  case measure => omega
                  case rel => exact ⟨j + 1, by go_num, rfl, by omega, HX.out, HB.out.alloc HB.out.size _, HO.out.alloc _⟩
              · have hjl' : ¬ (j : Int) < tm.length := by omega
                have HX := Lib.hid (HFREE.out HRT.out (by have := HALLJ.out; rw [List.take_of_length_le (by omega)] at this; exact HFI.out this))
                clear hb
                go_wp2
                go_roundg (l.length - (m + 1))
                case measure => omega
                case rel => exact ⟨m + 1, by go_num, rfl, by omega, HX.out, HB.out, HO.out⟩
          · have HRF : Hid (r = false) := Lib.hid (HRX.out (HRN.out hxh))
            have g1 : hv < xv := by omega
            clear hxh
            go_quiet (fail)
            go_wp2
            go_ret
            exact ⟨by rw [HRF.out]; rfl, bel_drewN HBU.out _⟩
        · have hml' : ¬ (m : Int) < l.length := by omega
          have HX : Hid (r = true) := Lib.hid (HYES.out (may_of HTO.out hlt (fun x hx => HALL.out x (by rw [List.take_of_length_le (by omega)]; exact hx))))
          clear hb
          go_wp2
          go_ret
          exact ⟨by rw [HX.out]; rfl, HB.out⟩
end Go.Proofs.YtgcbnndbeoekgaaDoor
