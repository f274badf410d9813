/- unify.ordered -/
import Derived.Test.YtgcbnndbeoekgaaDoorSubP
import Derived.Test.YtgcbnndbeoekgaaDoorNameWalks
import Derived.Deep.LoopGhost
set_option linter.unusedSimpArgs false
set_option linter.unusedVariables false
namespace Go.Proofs.YtgcbnndbeoekgaaDoor
open Go Go.RowKit

def ordI (l : List TN) (i : Nat) : Int := match ordN l i with | some m => m | none => -1
theorem ordI_some {l : List TN} {i m : Nat} (h : ordN l i = some m) : ordI l i = m := by unfold ordI; rw [h]
theorem ordI_none {l : List TN} {i : Nat} (h : ordN l i = none) : ordI l i = -1 := by unfold ordI; rw [h]

set_option maxRecDepth 100000 in
set_option maxHeartbeats 1000000 in
theorem ordered_any (d : Nat) : ∀ (A : Option Addr) (c : Nat) (l : List TN) (i : Nat) (w : World) (F : Nat → Prop), l.length - i ≤ d → i < l.length → l.length ≤ c → c ≤ maxLen → RowOf 3 ETN w F A l →
    Calls Tryd.prog 24 #[.slice A l.length c, .int .i64 i] w fun e w' => e = .returned (.int .i64 (ordI l i)) ∧ w = w' := by
  induction d with
  | zero => intro A c l i w F h hi; omega
  | succ d ih =>
    intro A c l i w F h hi hlc hc hr
    obtain ⟨b, off, S, k, rfl, hbF, d0, d1, d2, hk1, hk2, hrow⟩ := nodes_at hr hi
    have HR := Lib.hid hr
    obtain ⟨la, hla⟩ : ∃ la, l[i].args = la := ⟨_, rfl⟩
    have HFULL : Hid (∀ m, ordA (ordN l) l.length (la.take la.length) (i + 1) = some m → ordI l i = (m : Int)) := Lib.hid (by subst hla; exact fun m h => ordI_some (ordN_full hi h))
    have HFAIL : Hid (∀ k next (hk : k < la.length), ordA (ordN l) l.length (la.take k) (i + 1) = some next → (la[k] ≠ (next : Int) ∨ ¬ next < l.length ∨ ordN l next = none) → ordI l i = -1) := Lib.hid (by subst hla; exact fun k next hk h h1 => ordI_none (ordN_fail hi hk h h1))
    have HREC : Hid (∀ j : Nat, i < j → j < l.length → Calls Tryd.prog 24 #[.slice (some ⟨b, off, none⟩) l.length c, .int .i64 j] w fun e w' => e = .returned (.int .i64 (ordI l j)) ∧ w = w') := Lib.hid fun j hj hjl => ih _ c l j w F (by omega) hjl hlc hc hr
    rw [hla] at d2 hk1 hrow
    clear hla hr ih d0 d1
    have m1 : (0 : Int) ≤ i := by omega
    have m2 : (i : Int) < l.length := by omega
    unfold maxLen at hc hk2
    have hll : l.length ≤ 9223372036854775807 := by omega
    go_enter Tryd.func24, Tryd.ntmps24
    go_wp2
    go_loop [5, 16] (fun n x => ∃ j next : Nat, x = .int .i64 j ∧ n = .int .i64 next ∧ j ≤ la.length ∧ i < next ∧ next ≤ l.length ∧ ordA (ordN l) l.length (la.take j) (i + 1) = some next) (fun _ x => la.length - (intOf x).toNat)
    case atStart => exact ⟨0, i + 1, rfl, by go_num, Nat.zero_le _, by omega, by omega, rfl⟩
    case round =>
      obtain ⟨j, next, rfl, rfl, hj, hn1, hn2, ho⟩ := hrel
      have HO := Lib.hid ho
      clear ho
      by_cases hjl : j < la.length
      · obtain ⟨g, o, rfl, hg, a1⟩ := ints_at hrow hjl
        have n1 : (0 : Int) ≤ j := by omega
        have n2 : (j : Int) < la.length := by omega
        have HSTEP : Hid (∀ m, la[j] = (next : Int) → next < l.length → ordN l next = some m → ordA (ordN l) l.length (la.take (j + 1)) (i + 1) = some m) := Lib.hid fun m h1 h2 h3 => ordA_step hjl HO.out h1 h2 h3
        have HF := Lib.hid (HFAIL.out j next hjl HO.out)
        generalize la[j] = x at *
        by_cases hx : x = (next : Int)
        · subst hx
          by_cases hnl : next < l.length
          · have HC := HREC.out next hn1 hnl
            cases hm : ordN l next with
            | none =>
              have HNO := Lib.hid (HF.out (.inr (.inr hm)))
              rw [ordI_none hm] at HC
              clear hm
              have e1 : ((next : Int) != next) = false := by simp
              have e2 : (next : Int) < l.length := by omega
              go_wp2_with (go_at_call 24; refine HC.mono ?_; rintro e w' ⟨rfl, rfl⟩)
              go_ret
              exact ⟨by rw [HNO.out]; rfl, rfl⟩
            | some m =>
              have HYES := Lib.hid (HSTEP.out m rfl hnl hm)
              have hmg := ordN_gt hm
              obtain ⟨hm1, hm2⟩ := hmg
              rw [ordI_some hm] at HC
              clear hm
              have e1 : ((next : Int) != next) = false := by simp
              have e2 : (next : Int) < l.length := by omega
              go_wp2_with (go_at_call 24; refine HC.mono ?_; rintro e w' ⟨rfl, rfl⟩)
              go_round
              case rel => exact ⟨j + 1, m, by go_num, rfl, by omega, by omega, hm2, HYES.out⟩
              case measure => simp [intOf] <;> omega
          · have HNO := Lib.hid (HF.out (.inr (.inl hnl)))
            have e1 : ((next : Int) != next) = false := by simp
            have e2 : ¬ (next : Int) < l.length := by omega
            go_wp2
            go_ret
            exact ⟨by rw [HNO.out]; rfl, rfl⟩
        · have HNO := Lib.hid (HF.out (.inl hx))
          have e1 : (x != next) = true := by simp; exact hx
          clear hx
          go_wp2
          go_ret
          exact ⟨by rw [HNO.out]; rfl, rfl⟩
      · have HY : Hid (ordI l i = (next : Int)) := Lib.hid (HFULL.out next (by rw [show la.length = j by omega]; exact HO.out))
        have e1 : ¬ (j : Int) < la.length := by omega
        go_wp2
        go_ret
        exact ⟨by rw [HY.out]; rfl, rfl⟩
end Go.Proofs.YtgcbnndbeoekgaaDoor
