import Derived.Test.YtmafhaadcjgcbaaProg
import Derived.Test.YtmafhaadcjgcbaaAPlain
import Derived.Test.YtmafhaadcjgcbaaANodes
import Derived.Deep.LoopGhost
set_option linter.unusedSimpArgs false
set_option linter.unusedVariables false
namespace Go.Proofs.Ytmafhaadcjgcbaa
open Go Go.RowKit

set_option maxRecDepth 100000 in
set_option maxHeartbeats 400000 in
theorem index_any (A : Option Addr) (c : Nat) (l : List Int) (id : Int) (w : World) (F : Nat → Prop) (h : RowOf 1 EInt w F A l) (hl : l.length ≤ 9223372036854775807) :
    Calls Try.prog 104 #[.slice A l.length c, .int .i64 id] w fun e w' => e = .returned (.int .i64 (idxI l id)) ∧ w = w' := by
  go_enter Try.func104, Try.ntmps104
  go_wp2
  go_loopg [5] l.length (fun g s5 wx => ∃ k : Nat, s5 = .int .i64 k ∧ g = l.length - k ∧ k ≤ l.length ∧ w = wx ∧ ∀ j (hj : j < l.length), j < k → l[j] ≠ id)
  case atStart => exact ⟨0, rfl, rfl, Nat.zero_le _, rfl, fun j hj h => absurd h (Nat.not_lt_zero _)⟩
  case round =>
    obtain ⟨k, rfl, rfl, hk, rfl, hn⟩ := hrel
    have HN := Lib.hid hn; clear hn
    by_cases hlt : k < l.length
    · obtain ⟨b, off, rfl, hb, d0⟩ := int_at h hlt
      have m1 : (0 : Int) ≤ k := by omega
      have m2 : (k : Int) < l.length := by omega
      by_cases he : l[k] = id
      · have HE := Lib.hid (idxI_at hlt he HN.out)
        have he' : (l[k] == id) = true := beq_iff_eq.2 he
        clear he
        go_wp2
        go_ret
        exact ⟨by rw [HE.out]; rfl, rfl⟩
      · have he' : (l[k] == id) = false := beq_eq_false_iff_ne.2 he
        have HE := Lib.hid he
        clear he
        go_wp2
        go_roundg (l.length - (k + 1))
        case measure => omega
        case rel => exact ⟨k + 1, by go_num, rfl, by omega, rfl, fun j hj hjk => by
          rcases Nat.lt_succ_iff_lt_or_eq.1 hjk with h' | h'
          · exact HN.out j hj h'
          · subst h'; exact HE.out⟩
    · have HE := Lib.hid (idxI_none (l := l) (id := id) fun j hj => HN.out j hj (by omega))
      have m2 : decide ((k : Int) < l.length) = false := decide_eq_false (by omega)
      go_wp2
      go_ret
      exact ⟨by rw [HE.out]; rfl, rfl⟩
theorem has_any (A : Option Addr) (c : Nat) (l : List Int) (id : Int) (w : World) (F : Nat → Prop) (h : RowOf 1 EInt w F A l) (hl : l.length ≤ 9223372036854775807) :
    Calls Try.prog 100 #[.slice A l.length c, .int .i64 id] w fun e w' => e = .returned (.bool (decide (id ∈ l))) ∧ w = w' := by
  go_enter Try.func100, Try.ntmps100
  go_wp2_with fail
  refine (index_any A c l id _ F h hl).mono ?_
  rintro _ _ ⟨rfl, rfl⟩
  by_cases hm : id ∈ l
  · have h0 := idxI_mem.2 hm
    have E := Lib.hid (decide_eq_true hm); clear hm
    go_wp2
    go_ret
    exact ⟨by rw [E.out]; simp, rfl⟩
  · have h0 : idxI l id < 0 := by
      have := mt idxI_mem.1 hm; omega
    have E := Lib.hid (decide_eq_false hm); clear hm
    go_wp2
    go_ret
    exact ⟨by rw [E.out]; simpa using h0, rfl⟩
end Go.Proofs.Ytmafhaadcjgcbaa
