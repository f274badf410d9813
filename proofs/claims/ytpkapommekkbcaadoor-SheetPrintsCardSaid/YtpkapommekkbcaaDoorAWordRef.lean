import Derived.Test.YtpkapommekkbcaaDoorAWord
import Derived.Deep.LoopGhost
import Derived.Deep.DeepCutAuto
set_option linter.unusedSimpArgs false
set_option linter.unusedVariables false
namespace Go.Proofs.YtpkapommekkbcaaDoor
open Go Go.RowKit

def AllWords (t : ByteArray) (k : Nat) : Prop := ∀ j (h : j < t.size), j < k → wordB t[j] = true ∧ (j = 0 → letterB t[j] = true)
theorem AllWords.next {t : ByteArray} {k : Nat} (h : AllWords t k) (hk : k < t.size) (hw : wordB t[k] = true) (hl : k = 0 → letterB t[k] = true) : AllWords t (k + 1) := fun j hj hjk => by
  rcases Nat.lt_succ_iff_lt_or_eq.1 hjk with h' | h'
  · exact h j hj h'
  · subst h'; exact ⟨hw, hl⟩
theorem AllWords.right {t : ByteArray} {k : Nat} (h : AllWords t k) (hk : ¬ k < t.size) (h0 : 0 < t.size) (h1 : t.size ≤ 32) : rightB t.data.toList = true := by
  have hlen : t.data.toList.length = t.size := rfl
  exact rightB_of h0 h1 ((h 0 h0 (by omega)).2 rfl) fun i hi => (h i hi (by omega)).1
/-- is this the byte of a word that it must be? -/
def goodI (k : Nat) (x : Int) : Bool := letterI x || (decide (0 < k) && (figureI x || decide (x = 95)))
theorem goodI_yes {t : ByteArray} {k : Nat} (hk : k < t.size) (h : goodI k t[k].toNat = true) : wordB t[k] = true ∧ (k = 0 → letterB t[k] = true) := by
  unfold goodI at h
  unfold wordB wordI letterB
  cases hl : letterI (t[k].toNat : Int) with
  | true => exact ⟨by simp, fun _ => rfl⟩
  | false =>
    simp only [hl, Bool.false_or, Bool.and_eq_true, decide_eq_true_eq] at h
    exact ⟨by simpa using h.2, fun e => by omega⟩
theorem goodI_no {t : ByteArray} {k : Nat} (hk : k < t.size) (h : goodI k t[k].toNat = false) : rightB t.data.toList = false := by
  have hlen : t.data.toList.length = t.size := rfl
  unfold goodI at h
  simp only [Bool.or_eq_false_iff, Bool.and_eq_false_iff, decide_eq_false_iff_not] at h
  rcases h.2 with h2 | h2
  · have : k = 0 := by omega
    subst this
    exact rightB_head (by omega) h.1
  · refine rightB_no (i := k) (by omega) ?_
    show wordI (t[k].toNat : Int) = false
    unfold wordI
    rw [h.1]
    simpa using h2
theorem rightB_zero {t : ByteArray} (h : t.size = 0) : rightB t.data.toList = false := by
  have : t.data.toList = [] := List.eq_nil_of_length_eq_zero h
  rw [this]; rfl

theorem head_is {s : ByteArray} (h : 0 < s.size) : ((s[0].toNat : Int) == 63) = (s.data.toList.head? == some 63) := by
  rw [head_some h]
  by_cases e : s[0] = 63
  · rw [e]; rfl
  · have h1 : ((s[0].toNat : Int) == 63) = false := beq_eq_false_iff_ne.2 fun e2 => e (UInt8.toNat_inj.1 (by exact_mod_cast e2))
    have h2 : (some s[0] == some (63 : UInt8)) = false := beq_eq_false_iff_ne.2 fun e2 => e (Option.some.inj e2)
    rw [h1, h2]
theorem head_nil {s : ByteArray} (h : ¬ 0 < s.size) : false = (s.data.toList.head? == some 63) := by
  have : s.data.toList = [] := List.eq_nil_of_length_eq_zero (by have : s.data.toList.length = s.size := rfl; omega)
  rw [this]; rfl
theorem strip_no {s : ByteArray} (h : (s.data.toList.head? == some 63) = false) : stripS s = s := by unfold stripS; rw [if_neg (by simpa using h)]
theorem strip_yes {s : ByteArray} (h : (s.data.toList.head? == some 63) = true) : 0 < s.size ∧ stripS s = s.extract 1 s.size := by
  refine ⟨?_, by unfold stripS; rw [if_pos (by simpa using h)]⟩
  rcases Nat.eq_zero_or_pos s.size with h1 | h1
  · rw [← head_nil (by omega)] at h; cases h
  · exact h1

set_option maxRecDepth 100000 in
set_option maxHeartbeats 1000000 in
theorem refWord_any (s : ByteArray) (hs : s.size ≤ 9223372036854775807) (w : World) : Calls Tryd.prog 54 #[.string s] w fun e w' => e = .returned (.bool (wordA s)) ∧ w = w' := by
  have hst := stripS_size s
  have HW := Lib.hid (show wordA s = rightB (stripS s).data.toList by unfold wordA; rw [stripS_list])
  go_enter Tryd.func54, Tryd.ntmps54
  go_upto_region 1 with fail
  go_cut [13] (fun b wx => w = wx ∧ b = .bool (s.data.toList.head? == some 63))
  case first =>
    by_cases hp : 0 < s.size
    · have hp' : (0 : Int) < s.size := by omega
      go_wp2
      go_meet
      case rel => exact ⟨rfl, by rw [head_is hp]⟩
    · have hp' : ¬ (0 : Int) < s.size := by omega
      go_wp2
      go_meet
      case rel => exact ⟨rfl, by rw [head_nil hp]⟩
  case rest =>
    obtain ⟨rfl, rfl⟩ := hcut
    generalize hb : (s.data.toList.head? == some 63) = b
    have HB := Lib.hid hb; clear hb
    go_upto_if 13 with fail
    go_cut [0] (fun s0 wx => w = wx ∧ s0 = .string (stripS s))
    case first =>
      cases b
      · have e := strip_no HB.out
        have E := Lib.hid e; clear e
        go_wp2
        go_meet
        case rel => exact ⟨rfl, by rw [E.out]⟩
      · obtain ⟨hp, e⟩ := strip_yes HB.out
        have E := Lib.hid e; clear e
        have hp' : (1 : Int) ≤ s.size := by omega
        obtain ⟨t, ht⟩ : ∃ t, s.extract 1 s.size = t := ⟨_, rfl⟩
        rw [ht] at E
        go_wp2
        go_meet
        case rel => exact ⟨rfl, by rw [E.out]⟩
    case rest =>
      obtain ⟨rfl, rfl⟩ := hcut
      obtain ⟨t, ht⟩ : ∃ t, stripS s = t := ⟨_, rfl⟩
      rw [ht] at hst HW ⊢
      clear ht
      by_cases h0 : 1 ≤ t.size
      · by_cases h1 : t.size ≤ 32
        · have h1' : (t.size : Int) ≤ 32 := by omega
          have h0' : (1 : Int) ≤ t.size := by omega
          go_wp2
          go_loopg [3, 4, 5] t.size (fun g i _ _ wx => ∃ k : Nat, i = .int .i64 k ∧ g = t.size - k ∧ w = wx ∧ k ≤ t.size ∧ AllWords t k)
          case atStart => exact ⟨0, rfl, rfl, rfl, Nat.zero_le _, fun j hj h => absurd h (Nat.not_lt_zero _)⟩
          case round =>
            obtain ⟨k, rfl, rfl, rfl, hk, hall⟩ := hrel
            have HA := Lib.hid hall; clear hall
            by_cases hlt : k < t.size
            · obtain ⟨c, hc⟩ : ∃ c : Int, (t[k].toNat : Int) = c := ⟨_, rfl⟩
              have Hc := Lib.hid hc
              have hlt' : (k : Int) < t.size := by omega
              go_upto_region 9 with fail
              clear hc
              go_cut [5] (fun b wx => w = wx ∧ b = .bool (letterI c))
              case first =>
                by_cases a1 : (97 : Int) ≤ c
                · by_cases a2 : c ≤ 122
                  · go_wp2
                    go_meet
                    case rel => exact ⟨rfl, by simp [letterI, a1, a2]⟩
                  · have a2' : (122 : Int) < c := by omega
                    have a3 : (65 : Int) ≤ c := by omega
                    have a4 : (90 : Int) < c := by omega
                    have a4' : ¬ c ≤ 90 := by omega
                    go_wp2
                    go_meet
                    case rel => exact ⟨rfl, by simp [letterI, a2, a4']⟩
                · have a1' : c < (97 : Int) := by omega
                  by_cases a3 : (65 : Int) ≤ c
                  · by_cases a4 : c ≤ 90
                    · go_wp2
                      go_meet
                      case rel => exact ⟨rfl, by simp [letterI, a3, a4]⟩
                    · have a4' : (90 : Int) < c := by omega
                      go_wp2
                      go_meet
                      case rel => exact ⟨rfl, by simp [letterI, a1, a4]; try omega⟩
                  · have a3' : c < (65 : Int) := by omega
                    go_wp2
                    go_meet
                    case rel => exact ⟨rfl, by simp [letterI, a1, a3]; try omega⟩
              case rest =>
                obtain ⟨rfl, rfl⟩ := hcut
                generalize hl : letterI c = sm
                have Hl := Lib.hid hl; clear hl
                go_upto_region 10 with fail
                go_cut [64] (fun b wx => w = wx ∧ b = .bool (!goodI k c))
                case first =>
                  cases sm
                  · by_cases hk0 : k = 0
                    · have hk1 : ((k : Int) == 0) = true := beq_iff_eq.2 (by omega)
                      have hg : goodI k c = false := by unfold goodI; rw [Hl.out, hk0]; rfl
                      have HG := Lib.hid hg; clear hg hk0
                      go_wp2
                      go_meet
                      case rel => exact ⟨rfl, by rw [HG.out]; rfl⟩
                    · have hk1 : ((k : Int) == 0) = false := beq_eq_false_iff_ne.2 (by omega)
                      have hk2 : decide (0 < k) = true := decide_eq_true (by omega)
                      by_cases h95 : c = 95
                      · have h95' : (c != 95) = false := by rw [h95]; rfl
                        have hg : goodI k c = true := by unfold goodI; rw [Hl.out, hk2, h95]; rfl
                        have HG := Lib.hid hg; clear hg hk0 h95 hk2
                        go_wp2
                        go_meet
                        case rel => exact ⟨rfl, by rw [HG.out]; rfl⟩
                      · have h95' : (c != 95) = true := bne_iff_ne.2 h95
                        have h95'' : decide (c = 95) = false := decide_eq_false h95
                        by_cases h48 : c < 48
                        · have hg : goodI k c = false := by unfold goodI figureI; rw [Hl.out, hk2, h95'', decide_eq_false (show ¬ (48 : Int) ≤ c by omega)]; rfl
                          have HG := Lib.hid hg; clear hg hk0 h95 hk2 h95''
                          go_wp2
                          go_meet
                          case rel => exact ⟨rfl, by rw [HG.out]; rfl⟩
                        · have h48' : (48 : Int) ≤ c := by omega
                          by_cases h57 : (57 : Int) < c
                          · have hg : goodI k c = false := by unfold goodI figureI; rw [Hl.out, hk2, h95'', decide_eq_false (show ¬ c ≤ 57 by omega)]; simp
                            have HG := Lib.hid hg; clear hg hk0 h95 hk2 h95'' h48
                            go_wp2
                            go_meet
                            case rel => exact ⟨rfl, by rw [HG.out]; rfl⟩
                          · have h57' : c ≤ (57 : Int) := by omega
                            have hg : goodI k c = true := by unfold goodI figureI; rw [Hl.out, hk2, decide_eq_true h48', decide_eq_true h57']; rfl
                            have HG := Lib.hid hg; clear hg hk0 h95 hk2 h95'' h48 h57
                            go_wp2
                            go_meet
                            case rel => exact ⟨rfl, by rw [HG.out, decide_eq_false (show ¬ c < 48 by omega), decide_eq_false (show ¬ (57 : Int) < c by omega)]; rfl⟩
                  · have hg : goodI k c = true := by unfold goodI; rw [Hl.out]; rfl
                    have HG := Lib.hid hg; clear hg
                    go_wp2
                    go_meet
                    case rel => exact ⟨rfl, by rw [HG.out]; rfl⟩
                case rest =>
                  obtain ⟨rfl, rfl⟩ := hcut
                  cases hg : goodI k c
                  · have E := Lib.hid (goodI_no hlt (by rw [Hc.out]; exact hg))
                    clear hg
                    go_wp2
                    go_ret
                    exact ⟨by rw [HW.out, E.out]; rfl, rfl⟩
                  · obtain ⟨w1, w2⟩ := goodI_yes hlt (by rw [Hc.out]; exact hg)
                    have W1 := Lib.hid w1; have W2 := Lib.hid w2
                    clear hg w1 w2
                    go_wp2
                    go_roundg (t.size - (k + 1))
                    case measure => omega
                    case rel => exact ⟨k + 1, by go_num, rfl, rfl, by omega, HA.out.next hlt W1.out W2.out⟩
            · have e : rightB t.data.toList = true := HA.out.right hlt (by omega) (by omega)
              have E := Lib.hid e; clear e
              go_wp2
              go_ret
              exact ⟨by rw [HW.out, E.out]; rfl, rfl⟩
        · have h1' : (32 : Int) < t.size := by omega
          have h0' : (1 : Int) ≤ t.size := by omega
          have E := Lib.hid (rightB_long (l := t.data.toList) (by have : t.data.toList.length = t.size := rfl; omega))
          go_wp2
          go_ret
          exact ⟨by rw [HW.out, E.out]; rfl, rfl⟩
      · have h0' : (t.size : Int) < 1 := by omega
        have E := Lib.hid (rightB_zero (t := t) (by omega))
        go_wp2
        go_ret
        exact ⟨by rw [HW.out, E.out]; rfl, rfl⟩
end Go.Proofs.YtpkapommekkbcaaDoor
