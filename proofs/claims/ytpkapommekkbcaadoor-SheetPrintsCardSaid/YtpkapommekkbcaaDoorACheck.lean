import Derived.Test.YtpkapommekkbcaaDoorAHangs
set_option linter.unusedSimpArgs false
set_option linter.unusedVariables false
namespace Go.Proofs.YtpkapommekkbcaaDoor
open Go Go.RowKit

open Classical in
noncomputable def checkI (m : AModel) : Int := errI (decide (CheckM m))
open Classical in
theorem checkI_no {m : AModel} (h : ¬ CheckM m) : checkI m = 29 := by unfold checkI; rw [decide_eq_false h]; rfl
open Classical in
theorem checkI_hangs {m : AModel} (h1 : IdsOK m) (h2 : ∀ n ∈ m.nodes, Alone m n) : hangsI m = checkI m := by
  unfold hangsI checkI
  congr 1
  rw [decide_eq_decide]
  exact ⟨fun h => ⟨h1, h2, h.1, h.2.1, h.2.2⟩, fun h => ⟨h.2.2.1, h.2.2.2.1, h.2.2.2.2⟩⟩
/-- what is asked of a node's numbers and texts: that they are Go's -/
def NodeOK (x : ANode) : Prop := StrOK x ∧ InR x.parent ∧ ∀ k ∈ x.kids, InR k
def AloneTo (m : AModel) (i : Nat) : Prop := ∀ j (h : j < m.nodes.length), j < i → Alone m m.nodes[j]
theorem AloneTo.next {m : AModel} {i : Nat} (h : AloneTo m i) (hi : ∀ h : i < m.nodes.length, Alone m m.nodes[i]) : AloneTo m (i + 1) := fun j hj hji => by
  rcases Nat.lt_succ_iff_lt_or_eq.1 hji with h' | h'
  · exact h j hj h'
  · subst h'; exact hi hj
theorem AloneTo.all {m : AModel} {i : Nat} (h : AloneTo m i) (hi : ¬ i < m.nodes.length) : ∀ n ∈ m.nodes, Alone m n := fun n hn => by
  obtain ⟨j, hj, rfl⟩ := List.getElem_of_mem hn
  exact h j hj (by omega)
/-- the ID ahead of a place, 0 ahead of the first -/
def prevI (m : AModel) (i : Nat) : Int := if h : 0 < i ∧ i ≤ m.nodes.length then (m.nodes[i - 1]'(by omega)).id else 0
theorem prevI_succ {m : AModel} {i : Nat} (h : i < m.nodes.length) : prevI m (i + 1) = m.nodes[i].id := by
  unfold prevI; rw [dif_pos (by omega)]; simp only [Nat.add_sub_cancel]
theorem idAt_of {m : AModel} {i : Nat} (h : IdsTo m i) (hl : i < m.nodes.length) (h1 : prevI m i < m.nodes[i].id) (h2 : m.nodes[i].id < m.next) : IdAt m i := fun _ => by
  unfold prevI at h1
  by_cases h0 : 0 < i
  · rw [dif_pos (by omega)] at h1
    have := (h (i - 1) (by omega) (by omega)).1
    exact ⟨by omega, h2, fun _ => h1⟩
  · rw [dif_neg (by omega)] at h1
    exact ⟨by omega, h2, fun h => absurd h h0⟩
theorem prev_of {m : AModel} {i : Nat} (hl : i < m.nodes.length) (h : IdAt m i) : prevI m i < m.nodes[i].id := by
  unfold prevI
  have h1 := h hl
  by_cases h0 : 0 < i
  · rw [dif_pos (by omega)]; exact h1.2.2 h0
  · rw [dif_neg (by omega)]; omega
set_option maxRecDepth 100000 in
set_option maxHeartbeats 2000000 in
theorem check_any (A : Option Addr) (c : Nat) (m : AModel) (w : World) (F : Nat → Prop) (hF : ∀ b, F b → b < w.heap.size) (h : RowOf 7 ENode w F A m.nodes) (hz : ∀ x ∈ m.nodes, NodeOK x) (hl : m.nodes.length ≤ 9223372036854775807) :
    Calls Tryd.prog 10 #[.agg #[.int .i64 m.next, .slice A m.nodes.length c]] w fun e w' => e = .returned (.int .i64 (checkI m)) ∧ Below w.heap.size w w' := by
  by_cases h1 : m.next < 1
  · have E := Lib.hid (checkI_no (m := m) (fun h => by have := h.1.1.1; omega))
    go_enter Tryd.func10, Tryd.ntmps10
    go_wp2
    go_ret
    exact ⟨by rw [E.out]; rfl, (Below.refl _ _).alloc (Nat.le_refl _) _⟩
  · by_cases h2 : 1048577 < m.next
    · have E := Lib.hid (checkI_no (m := m) (fun h => by have := h.1.1.2.1; omega))
      have h1' : 1 ≤ m.next := by omega
      go_enter Tryd.func10, Tryd.ntmps10
      go_wp2
      go_ret
      exact ⟨by rw [E.out]; rfl, (Below.refl _ _).alloc (Nat.le_refl _) _⟩
    · by_cases h3 : 4096 < m.nodes.length
      · have E := Lib.hid (checkI_no (m := m) (fun h => by have := h.1.1.2.2; omega))
        have h1' : 1 ≤ m.next := by omega
        have h2' : m.next ≤ 1048577 := by omega
        have h3' : (4096 : Int) < m.nodes.length := by omega
        go_enter Tryd.func10, Tryd.ntmps10
        go_wp2
        go_ret
        exact ⟨by rw [E.out]; rfl, (Below.refl _ _).alloc (Nat.le_refl _) _⟩
      · have HH : HeadOK m := ⟨by omega, by omega, by omega⟩
        have h1' : decide (m.next < 1) = false := decide_eq_false h1
        have h2' : decide (1048577 < m.next) = false := decide_eq_false h2
        have h3' : decide ((4096 : Int) < m.nodes.length) = false := decide_eq_false (by omega)
        have h3'' : decide (4096 < m.nodes.length) = false := decide_eq_false h3
        have hl4 : m.nodes.length ≤ 4096 := by omega
        go_enter Tryd.func10, Tryd.ntmps10
        go_wp2_with fail
        go_loopg [3, 23] m.nodes.length (fun g s3 s23 wx => ∃ k : Nat, s23 = .int .i64 k ∧ s3 = .int .i64 (prevI m k) ∧ g = m.nodes.length - k ∧ k ≤ m.nodes.length ∧ Below w.heap.size w wx ∧ Blk wx w.heap.size 24 #[.int .i64 m.next, .slice A m.nodes.length c] ∧ IdsTo m k ∧ AloneTo m k)
        case atStart => exact ⟨0, rfl, rfl, rfl, Nat.zero_le _, (Below.refl _ _).alloc (Nat.le_refl _) _, Blk.new _ _ _, fun j hj => absurd hj (Nat.not_lt_zero _), fun j _ hj => absurd hj (Nat.not_lt_zero _)⟩
        case round =>
          obtain ⟨k, rfl, rfl, rfl, hkk, hb, hmb, hall, hal⟩ := hrel
          have HB := Lib.hid hb; have HM := Lib.hid hmb; have HA := Lib.hid hall; have HL := Lib.hid hal
          have m0 := hmb.cell 0; have m1 := hmb.cell 1
          have hmlt := hmb.lt
          simp at m0 m1
          clear hmb hall hal
          by_cases hlt : k < m.nodes.length
          · have hlt' : (k : Int) < m.nodes.length := by omega
            have k0 : (0 : Int) ≤ k := by omega
            have hR := RowOf.keep ENode.stays (Keep.below hb hF) (F' := F) (fun _ h => h) h
            obtain ⟨b, off, Sp, cp, Sk, ck, Sr, cr, rfl, hbF, d0, d1, d2, d3, d4, d5, d6, ⟨_, hp2, hp3⟩, ⟨_, hk2, hk3⟩, ⟨_, hr2, hr3⟩⟩ := node_at hR hlt
            have hzz := hz _ (List.getElem_mem hlt)
            have hsz := hb.size
            have hbw := hF _ hbF
            clear hR
            obtain ⟨q, hq⟩ : ∃ q, prevI m k = q := ⟨_, rfl⟩
            rw [hq]
            have HQ := Lib.hid hq; clear hq
            by_cases hv : m.nodes[k].id ≤ q
            · have E := Lib.hid (checkI_no (m := m) (fun h => by have := prev_of hlt (h.1.2 k); rw [HQ.out] at this; omega))
              clear hb hp3 hk3 hr3
              go_wp2
              go_ret
              exact ⟨by rw [E.out]; rfl, HB.out.alloc hsz _⟩
            · have hv' : decide (m.nodes[k].id ≤ q) = false := decide_eq_false hv
              by_cases hu : m.next ≤ m.nodes[k].id
              · have E := Lib.hid (checkI_no (m := m) (fun h => by have := (h.1.2 k hlt).2.1; omega))
                clear hb hp3 hk3 hr3
                go_wp2
                go_ret
                exact ⟨by rw [E.out]; rfl, HB.out.alloc hsz _⟩
              · have hu' : decide (m.next ≤ m.nodes[k].id) = false := decide_eq_false hu
                have HID := Lib.hid (idAt_of HA.out hlt (by rw [HQ.out]; omega) (by omega))
                have HAL := Lib.hid (fun (w0 : World) (hb0 : Below wr.heap.size wr w0) => alone_any (some ⟨b, off, none⟩) c m m.nodes[k] Sp Sk Sr cp ck cr w0 F (fun b hb' => by have := hF b hb'; have := hb0.size; omega) (hp3.keep EProp.stays (Keep.below hb0 (fun b hb' => by have := hF b hb'; omega)) (fun _ h => h)) (hr3.keep ERef.stays (Keep.below hb0 (fun b hb' => by have := hF b hb'; omega)) (fun _ h => h)) (by unfold maxLen at hp2; omega) (by unfold maxLen at hr2; omega) hzz.1)
                clear hb hp3 hk3 hr3 hp2 hk2 hr2 hzz hv hu
                cases hal : aloneB m m.nodes[k]
                · have E := Lib.hid (checkI_no (m := m) (fun h => by have := (aloneB_is hal).1 (h.2.1 _ (List.getElem_mem hlt)); cases this))
                  have HAL2 := Lib.hid (fun w0 hb0 => res_is hal (HAL.out w0 hb0))
                  clear hal HAL
                  go_wp2_with fail
                  refine (HAL2.out _ (by exact (Below.refl _ _).alloc (Nat.le_refl _) _)).mono ?_
                  rintro _ w2 ⟨rfl, hb2⟩
                  have HB2 := Lib.hid (HB.out.trans ((below_of_alloc hb2).mono HB.out.size))
                  clear hb2
                  go_wp2
                  go_ret
                  exact ⟨by rw [E.out]; rfl, HB2.out⟩
                · have HAN := Lib.hid (HL.out.next (fun _ => (aloneB_is hal).2 rfl))
                  have HAL2 := Lib.hid (fun w0 hb0 => res_is hal (HAL.out w0 hb0))
                  have HIN := Lib.hid (HA.out.next HID.out)
                  clear hal HAL
                  go_wp2_with fail
                  refine (HAL2.out _ (by exact (Below.refl _ _).alloc (Nat.le_refl _) _)).mono ?_
                  rintro _ w2 ⟨rfl, hb2⟩
                  have HB2 := Lib.hid (HB.out.trans ((below_of_alloc hb2).mono HB.out.size))
                  have HM2 := Lib.hid (HM.out.below (below_of_alloc hb2) hmlt)
                  have n0 := hb2.cell (p := ⟨wr.heap.size, 0, none⟩) (by simp)
                  simp only [cell_new] at n0
                  clear hb2 d0 d1 d2 d3 d4 d5 d6 m0 m1
                  go_wp2
                  go_roundg (m.nodes.length - (k + 1))
                  case measure => omega
                  case rel => exact ⟨k + 1, by go_num, by rw [prevI_succ hlt], rfl, by omega, HB2.out, HM2.out, HIN.out, HAN.out⟩
          · have hlt' : decide ((k : Int) < m.nodes.length) = false := decide_eq_false (by omega)
            have HI : Hid (IdsOK m) := Lib.hid ⟨HH, fun i hi => HA.out i (by omega) hi⟩
            have HAA := Lib.hid (HL.out.all hlt)
            have E := Lib.hid (checkI_hangs HI.out HAA.out)
            have HHG := Lib.hid (hangs_any A c m wr F (fun b hb' => Nat.lt_of_lt_of_le (hF b hb') hb.size) (h.keep ENode.stays (Keep.below hb hF) (fun _ h => h)) HI.out (fun x hx => by have := (HAA.out x hx).2.2.2.1; omega) (fun x hx => (hz x hx).2))
            clear hb
            go_wp2_with fail
            refine HHG.out.mono ?_
            rintro _ w2 ⟨rfl, hb2⟩
            have HB2 := Lib.hid (HB.out.trans (hb2.mono HB.out.size))
            clear hb2
            go_wp2
            go_ret
            exact ⟨by rw [E.out]; rfl, HB2.out⟩
end Go.Proofs.YtpkapommekkbcaaDoor
