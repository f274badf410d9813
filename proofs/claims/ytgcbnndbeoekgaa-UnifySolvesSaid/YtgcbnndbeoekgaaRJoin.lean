/- the document's web.join: two nodes meet -/
import Derived.Test.YtgcbnndbeoekgaaRWebM
import Derived.BigQuiet
set_option linter.unusedSimpArgs false
set_option linter.unusedVariables false
namespace Go.Proofs.Ytgcbnndbeoekgaa
open Go Go.RowKit Go.Maps

/-- the first so many classes have been gone through -/
def joinTo (cl : List Nat) (x y j : Nat) : List Nat := joinC (cl.take j) x y ++ cl.drop j
theorem joinTo_len (cl : List Nat) (x y j : Nat) : (joinTo cl x y j).length = cl.length := by
  unfold joinTo joinC; simp; omega
theorem joinTo_at {cl : List Nat} {x y j : Nat} (hj : j < cl.length) : (joinTo cl x y j)[j]'(by rw [joinTo_len]; exact hj) = cl[j] := by
  unfold joinTo joinC
  rw [List.getElem_append_right (by simp; omega)]
  simp [Nat.min_eq_left (Nat.le_of_lt hj)]
theorem joinTo_next {cl : List Nat} {x y j : Nat} (hj : j < cl.length) : joinTo cl x y (j + 1) = (joinTo cl x y j).set j (if cl[j] = y then x else cl[j]) := by
  have h1 : (joinC (cl.take j) x y).length = j := by unfold joinC; simp; omega
  unfold joinTo
  rw [List.set_append_right _ _ (by omega), h1, Nat.sub_self]
  rw [List.drop_eq_getElem_cons hj, List.set_cons_zero]
  unfold joinC
  rw [List.take_succ_eq_append_getElem hj, List.map_append]
  simp
theorem joinTo_same {cl : List Nat} {x y j : Nat} (hj : j < cl.length) (h : cl[j] ≠ y) : joinTo cl x y (j + 1) = joinTo cl x y j := by
  rw [joinTo_next hj, if_neg h]
  have := joinTo_at (x := x) (y := y) hj
  rw [← this]
  exact List.set_getElem_self _
theorem joinTo_all (cl : List Nat) (x y : Nat) : joinTo cl x y cl.length = joinC cl x y := by unfold joinTo; simp

/-- a Bool is answered -/
def IsB (b : Bool) (e : Ending) : Prop := e = .returned (.bool b)
/-- the world behind a change of the classes alone -/
structure Joined (w : World) (B p : Nat) (nv cv : Value) (ns : List TN) (cl' : List Nat) (w' : World) : Prop where
  mem : RM w' B p nv cv ns cl'
  grown : w.grownBy w' cv.ownBlock

set_option maxRecDepth 100000 in
set_option maxHeartbeats 8000000 in
theorem rjoin_any (w : World) (B p : Nat) (nv cv : Value) (ns : List TN) (cl : List Nat) (h : RM w B p nv cv ns cl) (hl : cl.length ≤ 1048576) (a b : Nat) (ha : a < cl.length) (hb : b < cl.length) :
    Calls Try.prog 36 #[.pointer (some ⟨p, 0, none⟩), .int .i64 a, .int .i64 b] w fun e w' => IsB (!decide (rOf cl a = rOf cl b)) e ∧ Joined w B p nv cv ns (joinC cl (rOf cl a) (rOf cl b)) w' := by
  have HM := Lib.hid h
  obtain ⟨g, c, rfl, hgl, d0, _⟩ := h.clsAt ha
  obtain ⟨g', c', e, _, d1, _⟩ := h.clsAt hb
  injection e with e _ e3
  injection e with e
  injection e with e
  subst e; subst e3
  obtain ⟨x, hx⟩ : ∃ x, rOf cl a = x := ⟨_, rfl⟩
  obtain ⟨y, hy⟩ : ∃ y, rOf cl b = y := ⟨_, rfl⟩
  have hx' : cl[a] = x := by rw [← hx, rOf_at ha]
  have hy' : cl[b] = y := by rw [← hy, rOf_at hb]
  obtain ⟨n, hn⟩ : ∃ n, cl.length = n := ⟨_, rfl⟩
  have HN := Lib.hid hn
  rw [hx'] at d0
  rw [hy'] at d1
  have p1 := h.blk.cell 1
  simp at p1
  rw [hx, hy]
  rw [hn] at p1 ha hb hl HM
  (try rw [hn])
  clear h hx hy hx' hy' hn
  have ha' : (a : Int) < n := by omega
  have hb' : (b : Int) < n := by omega
  have a0 : (0 : Int) ≤ a := by omega
  have b0 : (0 : Int) ≤ b := by omega
  by_cases hxy : x = y
  · subst hxy
    go_enter Try.func36, Try.ntmps36
    go_wp2_with fail
    go_quiet (fail)
    go_wp2
    go_ret
    refine ⟨by unfold IsB; simp, ?_, ?_⟩
    · rw [joinC_same]; exact HM.out.drewN _
    · exact grown_drewN _ _ _
  · have hxy' : ¬ (x : Int) = y := by omega
    go_enter Try.func36, Try.ntmps36
    go_wp2_with fail
    go_quiet (fail)
    go_upto_region 5 with fail
    have HM0 : Hid (RM (w.drewN nq) B p nv (.slice (some ⟨g, 0, none⟩) n c) ns (joinTo cl x y 0)) := Lib.hid (by unfold joinTo joinC; simpa using HM.out.drewN nq)
    clear d0 d1 p1
    go_loopg [9] n (fun gh s9 wx => ∃ (j : Nat), s9 = .int .i64 j ∧ gh = n - j ∧ j ≤ n ∧ RM wx B p nv (.slice (some ⟨g, 0, none⟩) n c) ns (joinTo cl x y j) ∧ w.grownBy wx (some g))
    case atStart => exact ⟨0, rfl, rfl, Nat.zero_le _, HM0.out, grown_drewN _ _ _⟩
    case round =>
      clear HM0
      obtain ⟨j, rfl, rfl, hj, hm, hg⟩ := hrel
      have HMJ := Lib.hid hm; have HG := Lib.hid hg
      have p1 := hm.blk.cell 1
      simp at p1
      have j0 : (0 : Int) ≤ j := by omega
      clear hm hg
      by_cases hlt : j < n
      · have hlt' : (j : Int) < n := by omega
        have hjc : j < (joinTo cl x y j).length := by rw [joinTo_len, HN.out]; exact hlt
        obtain ⟨d0, f0, _⟩ := HMJ.out.clsG hjc
        have HJ : Hid (j < cl.length) := Lib.hid (by rw [HN.out]; exact hlt)
        rw [joinTo_at HJ.out] at d0
        obtain ⟨z, hz⟩ : ∃ z, cl[j]'HJ.out = z := ⟨_, rfl⟩
        have HZ := Lib.hid hz
        rw [hz] at d0
        clear hz hjc
        by_cases hzy : z = y
        · subst hzy
          have HM2 : Hid (RM (wr.setCell ⟨g, j, none⟩ (.int .i64 x)) B p nv (.slice (some ⟨g, 0, none⟩) n c) ns (joinTo cl x z (j + 1))) := Lib.hid (by
            rw [joinTo_next HJ.out, if_pos HZ.out]
            exact HMJ.out.setC j x)
          have HG2 : Hid (w.grownBy (wr.setCell ⟨g, j, none⟩ (.int .i64 x)) (some g)) := Lib.hid (HG.out.trans (grown_set wr g j (.int .i64 x)))
          clear HMJ HG
          go_wp2
          go_roundg (n - (j + 1))
          case measure => omega
          case rel => exact ⟨j + 1, by go_num, rfl, by omega, HM2.out, HG2.out⟩
        · have hzy' : ¬ (z : Int) = y := by omega
          have HM2 : Hid (RM wr B p nv (.slice (some ⟨g, 0, none⟩) n c) ns (joinTo cl x y (j + 1))) := Lib.hid (by
            rw [joinTo_same HJ.out (by rw [HZ.out]; exact hzy)]
            exact HMJ.out)
          clear HMJ hzy
          go_wp2
          go_roundg (n - (j + 1))
          case measure => omega
          case rel => exact ⟨j + 1, by go_num, rfl, by omega, HM2.out, HG.out⟩
      · have hlt' : ¬ (j : Int) < n := by omega
        have hjn : j = n := by omega
        subst hjn
        have HM2 : Hid (RM wr B p nv (.slice (some ⟨g, 0, none⟩) j c) ns (joinC cl x y)) := Lib.hid (by rw [← joinTo_all, HN.out]; exact HMJ.out)
        clear HMJ
        go_wp2
        go_ret
        exact ⟨by unfold IsB; simp [hxy], ⟨HM2.out, HG.out⟩⟩
end Go.Proofs.Ytgcbnndbeoekgaa
