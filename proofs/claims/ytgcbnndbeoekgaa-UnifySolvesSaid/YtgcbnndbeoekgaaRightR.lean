import Derived.Test.YtgcbnndbeoekgaaSubP
import Derived.Test.YtgcbnndbeoekgaaNameWalks
import Derived.Deep.LoopGhost
import Derived.Test.YtgcbnndbeoekgaaRegX
import Derived.Lib.QuietBelow
import Derived.Deep.DeepCutAuto
set_option linter.unusedSimpArgs false
set_option linter.unusedVariables false
section
/- unify.ordered -/
namespace Go.Proofs.Ytgcbnndbeoekgaa
open Go Go.RowKit

def ordI (l : List TN) (i : Nat) : Int := match ordN l i with | some m => m | none => -1
theorem ordI_some {l : List TN} {i m : Nat} (h : ordN l i = some m) : ordI l i = m := by unfold ordI; rw [h]
theorem ordI_none {l : List TN} {i : Nat} (h : ordN l i = none) : ordI l i = -1 := by unfold ordI; rw [h]

set_option maxRecDepth 100000 in
set_option maxHeartbeats 1000000 in
theorem ordered_any (d : Nat) : ∀ (A : Option Addr) (c : Nat) (l : List TN) (i : Nat) (w : World) (F : Nat → Prop), l.length - i ≤ d → i < l.length → l.length ≤ c → c ≤ maxLen → RowOf 3 ETN w F A l →
    Calls Try.prog 42 #[.slice A l.length c, .int .i64 i] w fun e w' => e = .returned (.int .i64 (ordI l i)) ∧ w = w' := by
  induction d with
  | zero => intro A c l i w F h hi; omega
  | succ d ih =>
    intro A c l i w F h hi hlc hc hr
    obtain ⟨b, off, S, k, rfl, hbF, d0, d1, d2, hk1, hk2, hrow⟩ := nodes_at hr hi
    have HR := Lib.hid hr
    obtain ⟨la, hla⟩ : ∃ la, l[i].args = la := ⟨_, rfl⟩
    have HFULL : Hid (∀ m, ordA (ordN l) l.length (la.take la.length) (i + 1) = some m → ordI l i = (m : Int)) := Lib.hid (by subst hla; exact fun m h => ordI_some (ordN_full hi h))
    have HFAIL : Hid (∀ k next (hk : k < la.length), ordA (ordN l) l.length (la.take k) (i + 1) = some next → (la[k] ≠ (next : Int) ∨ ¬ next < l.length ∨ ordN l next = none) → ordI l i = -1) := Lib.hid (by subst hla; exact fun k next hk h h1 => ordI_none (ordN_fail hi hk h h1))
    have HREC : Hid (∀ j : Nat, i < j → j < l.length → Calls Try.prog 42 #[.slice (some ⟨b, off, none⟩) l.length c, .int .i64 j] w fun e w' => e = .returned (.int .i64 (ordI l j)) ∧ w = w') := Lib.hid fun j hj hjl => ih _ c l j w F (by omega) hjl hlc hc hr
    rw [hla] at d2 hk1 hrow
    clear hla hr ih d0 d1
    have m1 : (0 : Int) ≤ i := by omega
    have m2 : (i : Int) < l.length := by omega
    unfold maxLen at hc hk2
    have hll : l.length ≤ 9223372036854775807 := by omega
    go_enter Try.func42, Try.ntmps42
    go_wp2
    go_loop [5, 16] (fun n x => ∃ j next : Nat, x = .int .i64 j ∧ n = .int .i64 next ∧ j ≤ la.length ∧ i < next ∧ next ≤ l.length ∧ ordA (ordN l) l.length (la.take j) (i + 1) = some next) (fun _ x => la.length - (intOf x).toNat)
    case atStart => exact ⟨0, i + 1, rfl, by go_num, Nat.zero_le _, by omega, by omega, rfl⟩
    case round =>
      obtain ⟨j, next, rfl, rfl, hj, hn1, hn2, ho⟩ := hrel
      have HO := Lib.hid ho
      clear ho
      by_cases hjl : j < la.length
      · obtain ⟨g, o, rfl, hg, a1⟩ := ints_at hrow hjl
        have n1 : (0 : Int) ≤ j := by omega
        have n2 : (j : Int) < la.length := by omega
        have HSTEP : Hid (∀ m, la[j] = (next : Int) → next < l.length → ordN l next = some m → ordA (ordN l) l.length (la.take (j + 1)) (i + 1) = some m) := Lib.hid fun m h1 h2 h3 => ordA_step hjl HO.out h1 h2 h3
        have HF := Lib.hid (HFAIL.out j next hjl HO.out)
        generalize la[j] = x at *
        by_cases hx : x = (next : Int)
        · subst hx
          by_cases hnl : next < l.length
          · have HC := HREC.out next hn1 hnl
            cases hm : ordN l next with
            | none =>
              have HNO := Lib.hid (HF.out (.inr (.inr hm)))
              rw [ordI_none hm] at HC
              clear hm
              have e1 : ((next : Int) != next) = false := by simp
              have e2 : (next : Int) < l.length := by omega
              go_wp2_with (go_at_call 42; refine HC.mono ?_; rintro e w' ⟨rfl, rfl⟩)
              go_ret
              exact ⟨by rw [HNO.out]; rfl, rfl⟩
            | some m =>
              have HYES := Lib.hid (HSTEP.out m rfl hnl hm)
              have hmg := ordN_gt hm
              obtain ⟨hm1, hm2⟩ := hmg
              rw [ordI_some hm] at HC
              clear hm
              have e1 : ((next : Int) != next) = false := by simp
              have e2 : (next : Int) < l.length := by omega
              go_wp2_with (go_at_call 42; refine HC.mono ?_; rintro e w' ⟨rfl, rfl⟩)
              go_round
              case rel => exact ⟨j + 1, m, by go_num, rfl, by omega, by omega, hm2, HYES.out⟩
              case measure => simp [intOf] <;> omega
          · have HNO := Lib.hid (HF.out (.inr (.inl hnl)))
            have e1 : ((next : Int) != next) = false := by simp
            have e2 : ¬ (next : Int) < l.length := by omega
            go_wp2
            go_ret
            exact ⟨by rw [HNO.out]; rfl, rfl⟩
        · have HNO := Lib.hid (HF.out (.inl hx))
          have e1 : (x != next) = true := by simp; exact hx
          clear hx
          go_wp2
          go_ret
          exact ⟨by rw [HNO.out]; rfl, rfl⟩
      · have HY : Hid (ordI l i = (next : Int)) := Lib.hid (HFULL.out next (by rw [show la.length = j by omega]; exact HO.out))
        have e1 : ¬ (j : Int) < la.length := by omega
        go_wp2
        go_ret
        exact ⟨by rw [HY.out]; rfl, rfl⟩
end Go.Proofs.Ytgcbnndbeoekgaa
end
section
/- which nodes are holes; both sides' Right -/
namespace Go.Proofs.Ytgcbnndbeoekgaa
open Go Go.RowKit

def holeB (t : TN) : Bool := decide (1 ≤ t.var ∧ t.var ≤ 2147483647 ∧ t.name.size = 0 ∧ t.args.length = 0)
theorem holeB_iff {t : TN} : holeB t = true ↔ HoleN t := by unfold holeB HoleN; exact decide_eq_true_iff
theorem empty_of {s : ByteArray} (h : s.size = 0) : s = ⟨#[]⟩ := by
  cases s with
  | mk d => have : d.size = 0 := h; rw [Array.size_eq_zero_iff.1 this]
theorem nonempty_ne {s : ByteArray} (h : s.size ≠ 0) : ¬ s.toList = [] := by
  rw [ByteArray.toList_eq]
  intro e
  exact h (by have : s.data.toList.length = s.size := rfl; rw [e] at this; exact this.symm)
theorem nonempty_is {s : ByteArray} (h : s.size ≠ 0) : s.toList.isEmpty = false := by
  cases e : s.toList.isEmpty with
  | false => rfl
  | true => exact absurd (List.isEmpty_iff.1 e) (nonempty_ne h)

set_option maxRecDepth 100000 in
set_option maxHeartbeats 1000000 in
theorem rhole_any (x : Int) (y : ByteArray) (S : Option Addr) (la : List Int) (k : Nat) (w : World) (hk : k ≤ maxLen) (hl : la.length ≤ k) :
    Calls Try.prog 43 #[.agg #[.int .i64 x, .string y, .slice S la.length k]] w fun e w' => e = .returned (.bool (holeB ⟨x, y, la⟩)) ∧ Below w.heap.size w w' := by
  obtain ⟨n, hn⟩ : ∃ n, la.length = n := ⟨_, rfl⟩
  have HE : Hid (holeB ⟨x, y, la⟩ = decide (1 ≤ x ∧ x ≤ 2147483647 ∧ y.size = 0 ∧ n = 0)) := Lib.hid (by rw [← hn]; rfl)
  rw [hn] at hl ⊢
  obtain ⟨r, hr⟩ : ∃ r, holeB ⟨x, y, la⟩ = r := ⟨_, rfl⟩
  rw [hr] at HE ⊢
  clear hr hn
  unfold maxLen at hk
  have n0 : (0 : Int) ≤ n := by omega
  by_cases h1 : (1 : Int) ≤ x
  · by_cases h2 : x ≤ 2147483647
    · by_cases h3 : y.size = 0
      · obtain rfl := empty_of h3
        clear h3
        by_cases h4 : n = 0
        · subst h4
          have HR : Hid (r = true) := Lib.hid (by rw [HE.out]; simp [h1, h2]; rfl)
          clear HE
          go_enter Try.func43, Try.ntmps43
          go_wp2
          go_ret; exact ⟨by rw [HR.out]; rfl, (Below.refl _ _).alloc (Nat.le_refl _) _⟩
        · have HR : Hid (r = false) := Lib.hid (by rw [HE.out]; simp [h4])
          have e4 : ((n : Int) == 0) = false := by simp; exact h4
          have h4 : ¬ (n : Int) = 0 := by omega
          clear HE
          go_enter Try.func43, Try.ntmps43
          go_wp2
          go_ret; exact ⟨by rw [HR.out]; rfl, (Below.refl _ _).alloc (Nat.le_refl _) _⟩
      · have HR : Hid (r = false) := Lib.hid (by rw [HE.out]; simp [h3])
        have e3 := nonempty_is h3
        have e3' := nonempty_ne h3
        clear HE
        go_enter Try.func43, Try.ntmps43
        go_wp2
        go_ret; exact ⟨by rw [HR.out]; rfl, (Below.refl _ _).alloc (Nat.le_refl _) _⟩
    · have HR : Hid (r = false) := Lib.hid (by rw [HE.out]; simp [h2])
      clear HE
      go_enter Try.func43, Try.ntmps43
      go_wp2
      go_ret; exact ⟨by rw [HR.out]; rfl, (Below.refl _ _).alloc (Nat.le_refl _) _⟩
  · have HR : Hid (r = false) := Lib.hid (by rw [HE.out]; simp [h1])
    clear HE
    go_enter Try.func43, Try.ntmps43
    go_wp2
    go_ret; exact ⟨by rw [HR.out]; rfl, (Below.refl _ _).alloc (Nat.le_refl _) _⟩
end Go.Proofs.Ytgcbnndbeoekgaa
end
section
/- unify.Right -/
namespace Go.Proofs.Ytgcbnndbeoekgaa
open Go Go.RowKit

theorem right_is {w : World} {x : ByteArray} {r : Bool} (h : rightB x.data.toList = r) (c : Calls Try.prog 38 #[.string x] w fun e w' => e = .returned (.bool (rightB x.data.toList)) ∧ w = w') : Calls Try.prog 38 #[.string x] w fun e w' => e = .returned (.bool r) ∧ w = w' := by rw [← h]; exact c
theorem take_right {l : List TN} {i : Nat} (hi : i < l.length) (h : ∀ t ∈ l.take i, NodeR t) (h1 : NodeR l[i]) : ∀ t ∈ l.take (i + 1), NodeR t := by
  rw [List.take_succ_eq_append_getElem hi]
  intro t ht
  rcases List.mem_append.1 ht with ht | ht
  · exact h t ht
  · simp only [List.mem_cons, List.not_mem_nil, or_false] at ht; subst ht; exact h1
theorem bel_drewN {B : Nat} {w w' : World} (h : Below B w w') (n : Nat) : Below B w (w'.drewN n) := by
  induction n with
  | zero => exact h
  | succ n ih => exact ih.drew

set_option maxRecDepth 100000 in
set_option maxHeartbeats 4000000 in
theorem uright_any (A : Option Addr) (c : Nat) (l : List TN) (w : World) (F : Nat → Prop) (hF : ∀ b, F b → b < w.heap.size) (hr : RowOf 3 ETN w F A l) (hlc : l.length ≤ c) (hc : c ≤ maxLen) (hz : ∀ t ∈ l, t.name.size ≤ 9223372036854775807) :
    Calls Try.prog 26 #[.agg #[.slice A l.length c]] w fun e w' => e = .returned (.int .i64 (rightI l)) ∧ Below w.heap.size w w' := by
  have HR := Lib.hid hr
  obtain ⟨r, hrr⟩ : ∃ r, rightI l = r := ⟨_, rfl⟩
  have HL : Hid (256 < l.length → r = 3) := Lib.hid (fun h => by rw [← hrr]; exact rightI_long h)
  have HB : Hid (¬ 256 < l.length → ¬ GoodN l → r = 2) := Lib.hid (fun h h2 => by rw [← hrr]; exact rightI_bad h h2)
  have HG : Hid (¬ 256 < l.length → GoodN l → r = 0) := Lib.hid (fun h h2 => by rw [← hrr]; exact rightI_good h h2)
  have HZ := Lib.hid hz
  have HOR : Hid (∀ w', Below w.heap.size w w' → 0 < l.length → Calls Try.prog 42 #[.slice A l.length c, .int .i64 ((0 : Nat) : Int)] w' fun e w2 => e = .returned (.int .i64 (ordI l 0)) ∧ w' = w2) := Lib.hid fun w' hb h0 => ordered_any l.length A c l 0 w' F (by omega) h0 hlc hc (hr.keep ETN.stays (Keep.below hb hF) (fun _ h => h))
  rw [hrr]
  clear hrr hr hz
  unfold maxLen at hc
  have hll : l.length ≤ 9223372036854775807 := by omega
  by_cases hg : 256 < l.length
  · have HX : Hid (r = 3) := Lib.hid (HL.out hg)
    have g1 : (256 : Int) < l.length := by omega
    go_enter Try.func26, Try.ntmps26
    go_wp2
    go_ret
    exact ⟨by rw [HX.out]; rfl, (Below.refl _ _).alloc (Nat.le_refl _) _⟩
  have g1 : ¬ (256 : Int) < l.length := by omega
  by_cases h0 : l.length = 0
  · have HX : Hid (r = 2) := Lib.hid (HB.out hg (by rw [List.eq_nil_of_length_eq_zero h0]; intro h; have := h.2; cases this))
    have e0 : ((l.length : Int) == 0) = true := by rw [h0]; rfl
    have H0 := Lib.hid h0
    clear h0
    go_enter Try.func26, Try.ntmps26
    go_wp2
    go_ret
    exact ⟨by rw [HX.out]; rfl, (Below.refl _ _).alloc (Nat.le_refl _) _⟩
  have e0 : ((l.length : Int) == 0) = false := beq_eq_false_iff_ne.2 (by omega)
  go_enter Try.func26, Try.ntmps26
  go_wp2
  go_loopg [17] l.length (fun g s17 wx => ∃ i : Nat, s17 = .int .i64 i ∧ g = l.length - i ∧ i ≤ l.length ∧ (∀ t ∈ l.take i, NodeR t) ∧ Below w.heap.size w wx ∧ Blk wx w.heap.size 24 #[.slice A l.length c])
  case atStart => exact ⟨0, rfl, rfl, Nat.zero_le _, by simp, (Below.refl _ _).alloc (Nat.le_refl _) _, Blk.new _ _ _⟩
  case round =>
    obtain ⟨i, rfl, rfl, hi, hall, hb, hx⟩ := hrel
    have HBW := Lib.hid hb; have HX := Lib.hid hx; have HALL := Lib.hid hall
    have hx0 := hx.cell 0
    simp at hx0
    have hlx := hx.lt
    clear hx hall
    have i0 : (0 : Int) ≤ i := by omega
    by_cases hlt : i < l.length
    · have hR := RowOf.keep ETN.stays (Keep.below hb hF) (F' := F) (fun _ h => h) HR.out
      obtain ⟨b, off, S, k, rfl, hbF, d0, d1, d2, hk1, hk2, hrow⟩ := nodes_at hR hlt
      have hlt' : (i : Int) < l.length := by omega
      have hnz := HZ.out _ (List.getElem_mem hlt)
      have HBAD : Hid (¬ NodeR l[i] → r = 2) := Lib.hid fun h => HB.out hg (bad_node hlt h)
      have HGOOD : Hid (NodeR l[i] → ∀ t ∈ l.take (i + 1), NodeR t) := Lib.hid fun h => take_right hlt HALL.out h
      obtain ⟨t, ht⟩ : ∃ t, l[i] = t := ⟨_, rfl⟩
      rw [ht] at d0 d1 d2 hk1 hrow hnz HBAD HGOOD
      clear ht hb hR hrow
      obtain ⟨x, y, la⟩ := t
      obtain ⟨n, hn⟩ : ∃ n, la.length = n := ⟨_, rfl⟩
      have HBAD2 : Hid (¬ ((1 ≤ x ∧ x ≤ 2147483647 ∧ y.size = 0 ∧ n = 0) ∨ (x = 0 ∧ rightB y.data.toList = true)) → r = 2) := Lib.hid (fun h => HBAD.out (fun hn2 => h (by rw [← hn]; exact hn2)))
      have HGOOD2 : Hid (((1 ≤ x ∧ x ≤ 2147483647 ∧ y.size = 0 ∧ n = 0) ∨ (x = 0 ∧ rightB y.data.toList = true)) → ∀ t ∈ l.take (i + 1), NodeR t) := Lib.hid (fun h => HGOOD.out (by rw [← hn] at h; exact h))
      simp only at d0 d1 d2 hk1 hnz
      rw [hn] at d2 hk1
      clear hn HBAD HGOOD
      unfold maxLen at hk2
      have n0 : (0 : Int) ≤ n := by omega
      by_cases h1 : (0 : Int) < x
      · by_cases h2 : x ≤ 2147483647
        · by_cases h3 : y.size = 0
          · obtain rfl := empty_of h3
            clear h3
            by_cases h4 : n = 0
            · subst h4
              have HZZ := Lib.hid (HGOOD2.out (by exact .inl ⟨by omega, h2, rfl, rfl⟩))
              clear HBAD2 HGOOD2
              go_wp2
              go_roundg (l.length - (i + 1))
              case measure => omega
              case rel => exact ⟨i + 1, by go_num, rfl, by omega, HZZ.out, HBW.out.alloc HBW.out.size _, HX.out.alloc _⟩
            · have e4 : ((n : Int) == 0) = false := by simp; exact h4
              have h4' : ¬ (n : Int) = 0 := by omega
              have e5 : (x != 0) = true := by simp; omega
              have HZZ : Hid (r = 2) := Lib.hid (HBAD2.out (by omega))
              clear HBAD2 HGOOD2
              go_wp2
              go_ret
              exact ⟨by rw [HZZ.out]; rfl, HBW.out.alloc HBW.out.size _⟩
          · have e3 := nonempty_is h3
            have e3' := nonempty_ne h3
            have e5 : (x != 0) = true := by simp; omega
            have HZZ : Hid (r = 2) := Lib.hid (HBAD2.out (by omega))
            clear HBAD2 HGOOD2
            go_wp2
            go_ret
            exact ⟨by rw [HZZ.out]; rfl, HBW.out.alloc HBW.out.size _⟩
        · have e5 : (x != 0) = true := by simp; omega
          have HZZ : Hid (r = 2) := Lib.hid (HBAD2.out (by omega))
          clear HBAD2 HGOOD2
          go_wp2
          go_ret
          exact ⟨by rw [HZZ.out]; rfl, HBW.out.alloc HBW.out.size _⟩
      · by_cases h5 : x = 0
        · subst h5
          cases hrb : rightB y.data.toList
          · have HRB := Lib.hid hrb
            have HZZ : Hid (r = 2) := Lib.hid (HBAD2.out (by rw [hrb]; simp))
            clear HBAD2 HGOOD2
            go_wp2_with (go_at_call 38; refine (right_is HRB.out (right_any _ _ hnz)).mono ?_; rintro e w' ⟨rfl, rfl⟩)
            go_ret
            exact ⟨by rw [HZZ.out]; rfl, HBW.out.alloc HBW.out.size _⟩
          · have HRB := Lib.hid hrb
            have HZZ := Lib.hid (HGOOD2.out (by exact .inr ⟨rfl, hrb⟩))
            clear HBAD2 HGOOD2
            go_wp2_with (go_at_call 38; refine (right_is HRB.out (right_any _ _ hnz)).mono ?_; rintro e w' ⟨rfl, rfl⟩)
            go_roundg (l.length - (i + 1))
            case measure => omega
            case rel => exact ⟨i + 1, by go_num, rfl, by omega, HZZ.out, HBW.out.alloc HBW.out.size _, HX.out.alloc _⟩
        · have e5 : (x != 0) = true := by simp; exact h5
          have HZZ : Hid (r = 2) := Lib.hid (HBAD2.out (by omega))
          clear HBAD2 HGOOD2
          go_wp2
          go_ret
          exact ⟨by rw [HZZ.out]; rfl, HBW.out.alloc HBW.out.size _⟩
    · have hia : i = l.length := by omega
      have HALL2 : Hid (∀ t ∈ l, NodeR t) := Lib.hid (by have := HALL.out; rw [hia, List.take_length] at this; exact this)
      have hlt' : ¬ (i : Int) < l.length := by omega
      have HC := HOR.out wr HBW.out (by omega)
      by_cases ho : ordN l 0 = some l.length
      · have HZZ : Hid (r = 0) := Lib.hid (HG.out hg ⟨HALL2.out, ho⟩)
        rw [ordI_some ho] at HC
        clear ho hb
        go_wp2_with (go_at_call 42; refine HC.mono ?_; rintro e w' ⟨rfl, rfl⟩)
        go_ret
        exact ⟨by rw [HZZ.out]; rfl, HBW.out⟩
      · have HZZ : Hid (r = 2) := Lib.hid (HB.out hg (bad_end ho))
        have hne : ordI l 0 ≠ (l.length : Int) := by
          intro e
          cases h : ordN l 0 with
          | none => rw [ordI_none h] at e; omega
          | some m => rw [ordI_some h] at e; exact ho (by rw [h]; congr 1; omega)
        have hne' : (ordI l 0 != (l.length : Int)) = true := by simp; exact hne
        clear ho hb hne
        go_wp2_with (go_at_call 42; refine HC.mono ?_; rintro e w' ⟨rfl, rfl⟩)
        go_ret
        exact ⟨by rw [HZZ.out]; rfl, HBW.out⟩
end Go.Proofs.Ytgcbnndbeoekgaa
end
section
/- the document's Right -/
namespace Go.Proofs.Ytgcbnndbeoekgaa
open Go Go.RowKit

theorem int_info15 : (Try.prog.info? 3).map (fun i => (i.zero, i.size, i.bytes)) = some (some (.int .i64 0), 1, 8) := by kernel_rfl
/-- a row of numbers that stands in a block -/
def Row1 (w : World) (g : Nat) (l : List Nat) : Prop := Blk w g 3 (l.map fun n : Nat => Value.int .i64 n).toArray
theorem Row1.cell {w : World} {g : Nat} {l : List Nat} (h : Row1 w g l) {i : Nat} (hi : i < l.length) : w.cell? ⟨g, i, none⟩ = some (.int .i64 l[i]) := by
  rw [Blk.cell h i]; simp [hi]
theorem Row1.set_ {w : World} {g : Nat} {l : List Nat} (h : Row1 w g l) (i : Nat) (b : Nat) : Row1 (w.setCell ⟨g, i, none⟩ (.int .i64 b)) g (l.set i b) := by
  have := Blk.set_ h i (.int .i64 b)
  unfold Row1
  rw [List.map_set]
  simpa using this
theorem Row1.made (w : World) (k : Nat) : Row1 (w.alloc (.cells (madeCells #[.int .i64 0] k) 3)) w.heap.size (List.replicate k 0) := by
  have e : madeCells #[.int .i64 0] k = ((List.replicate k 0).map fun n : Nat => Value.int .i64 n).toArray := by
    unfold madeCells
    apply Array.ext
    · simp
    · intro i h1 h2
      simp [Nat.mod_one]
  unfold Row1
  rw [← e]; exact Blk.new _ _ _
/-- how far the nodes from a place on reach -/
structure Reached (l : List TN) (ml : List Nat) (i : Nat) : Prop where
  len : ml.length = l.length
  ok : ∀ j (h : j < l.length) (h' : j < ml.length), i ≤ j → NodeR l[j] ∧ ordN l j = some (j + ml[j])
theorem Reached.start (l : List TN) : Reached l (List.replicate l.length 0) l.length := ⟨by simp, fun j h _ h2 => by omega⟩
theorem Reached.next {l : List TN} {ml : List Nat} {j m : Nat} (h : Reached l ml (j + 1)) (hj : j < l.length) (hn : NodeR l[j]) (ho : ordN l j = some m) (hm : j ≤ m) : Reached l (ml.set j (m - j)) j := by
  refine ⟨by simp [h.len], fun k hk hk' hjk => ?_⟩
  by_cases e : j = k
  · subst e
    refine ⟨hn, ?_⟩
    rw [List.getElem_set_self, ho]; congr 1; omega
  · rw [List.getElem_set_ne e]
    exact h.ok k hk (by simpa using hk') (by omega)

set_option maxRecDepth 100000 in
set_option maxHeartbeats 8000000 in
theorem rright_any (A : Option Addr) (c : Nat) (l : List TN) (w : World) (F : Nat → Prop) (hF : ∀ b, F b → b < w.heap.size) (hr : RowOf 3 ETN w F A l) (hlc : l.length ≤ c) (hc : c ≤ maxLen) (hz : ∀ t ∈ l, t.name.size ≤ 9223372036854775807) :
    Calls Try.prog 29 #[.agg #[.slice A l.length c]] w fun e w' => e = .returned (.int .i64 (rightI l)) ∧ Below w.heap.size w w' := by
  have HR := Lib.hid hr
  obtain ⟨r, hrr⟩ : ∃ r, rightI l = r := ⟨_, rfl⟩
  have HL : Hid (256 < l.length → r = 3) := Lib.hid (fun h => by rw [← hrr]; exact rightI_long h)
  have HB : Hid (¬ 256 < l.length → ¬ GoodN l → r = 2) := Lib.hid (fun h h2 => by rw [← hrr]; exact rightI_bad h h2)
  have HG : Hid (¬ 256 < l.length → GoodN l → r = 0) := Lib.hid (fun h h2 => by rw [← hrr]; exact rightI_good h h2)
  have HZ := Lib.hid hz
  rw [hrr]
  clear hrr hr hz
  unfold maxLen at hc
  have hll : l.length ≤ 9223372036854775807 := by omega
  by_cases hg : 256 < l.length
  · have HX : Hid (r = 3) := Lib.hid (HL.out hg)
    have g1 : (256 : Int) < l.length := by omega
    go_enter Try.func29, Try.ntmps29
    go_wp2
    go_ret
    exact ⟨by rw [HX.out]; rfl, (Below.refl _ _).alloc (Nat.le_refl _) _⟩
  have g1 : ¬ (256 : Int) < l.length := by omega
  by_cases h0 : l.length = 0
  · have HX : Hid (r = 2) := Lib.hid (HB.out hg (by rw [List.eq_nil_of_length_eq_zero h0]; intro h; have := h.2; cases this))
    have e0 : ((l.length : Int) == 0) = true := by rw [h0]; rfl
    have H0 := Lib.hid h0
    clear h0
    go_enter Try.func29, Try.ntmps29
    go_wp2
    go_ret
    exact ⟨by rw [HX.out]; rfl, (Below.refl _ _).alloc (Nat.le_refl _) _⟩
  have e0 : ((l.length : Int) == 0) = false := beq_eq_false_iff_ne.2 (by omega)
  have hmk : ∀ w0, (Instr.makeSlice 64 (.int .i64 l.length) (.int .i64 l.length)).run Try.prog w0 = .ok (.slice (some ⟨w0.heap.size, 0, none⟩) l.length l.length) (w0.alloc (.cells (madeCells #[.int .i64 0] l.length) 3)) := by
    intro w0
    obtain ⟨i, hi, hz, hsize, hby⟩ := info_parts int_info15
    have := run_make (P := Try.prog) w0 64 3 i (.int .i64 0) Try.underlying64 hi hz .i64 .i64 l.length l.length (by omega) (by omega) (by rw [hby]; omega) (by omega)
    rw [hsize] at this
    simpa [Value.cells] using this
  go_enter Try.func29, Try.ntmps29
  go_wp2
  clear hmk
  go_loopg [5] l.length (fun g s5 wx => ∃ (i : Nat) (ml : List Nat), s5 = .int .i64 ((i : Int) - 1) ∧ g = i ∧ i ≤ l.length ∧ Below w.heap.size w wx ∧ Blk wx w.heap.size 24 #[.slice A l.length c] ∧ Row1 wx (w.heap.size + 1) ml ∧ Reached l ml i)
  case atStart => exact ⟨l.length, List.replicate l.length 0, rfl, rfl, Nat.le_refl _, ((Below.refl _ _).alloc (Nat.le_refl _) _).alloc (by simp) _, (Blk.new _ _ _).alloc _, by simpa using Row1.made (w.alloc (.cells #[.slice A l.length c] 24)) l.length, Reached.start l⟩
  case round =>
    obtain ⟨i, ml, rfl, hgi, hi, hb, hx, hm, hre⟩ := hrel
    have hgi := hgi.symm
    subst hgi
    have HBW := Lib.hid hb; have HX := Lib.hid hx; have HM := Lib.hid hm; have HRE := Lib.hid hre
    have hx0 := hx.cell 0
    simp at hx0
    have hlx := hx.lt; have hlm := Blk.lt hm
    clear hx hm hre
    rcases Nat.eq_zero_or_pos i with hi0 | hi0
    · subst hi0
      have hml : 0 < ml.length := by rw [HRE.out.len]; omega
      have hm0 := HM.out.cell hml
      have hq : ordN l 0 = some (0 + ml[0]) := (HRE.out.ok 0 (by omega) hml (Nat.le_refl _)).2
      have HALL : Hid (∀ t ∈ l, NodeR t) := Lib.hid (fun t ht => by
        obtain ⟨j, hj, rfl⟩ := List.getElem_of_mem ht
        exact (HRE.out.ok j hj (by rw [HRE.out.len]; exact hj) (Nat.zero_le _)).1)
      generalize ml[0] = m at *
      have hl0 : (0 : Int) < l.length := by omega
      by_cases hml2 : m = l.length
      · have HZZ : Hid (r = 0) := Lib.hid (HG.out hg ⟨HALL.out, by rw [hq]; congr 1; omega⟩)
        have hd : ((m : Int) != l.length) = false := bne_eq_false_iff_eq.2 (by omega)
        have HML := Lib.hid hml2
        clear hml2 hq hb hx0 h0
        go_wp2
        go_ret
        exact ⟨by rw [HZZ.out]; rfl, HBW.out⟩
      · have HZZ : Hid (r = 2) := Lib.hid (HB.out hg (bad_end (by rw [hq]; intro e; injection e with e; omega)))
        have hd : ((m : Int) != l.length) = true := by simp; omega
        clear hml2 hq hb hx0 h0
        go_wp2
        go_ret
        exact ⟨by rw [HZZ.out]; rfl, HBW.out⟩
    · obtain ⟨j, rfl⟩ : ∃ j, i = j + 1 := ⟨i - 1, by omega⟩
      have hji : (((j + 1 : Nat) : Int) - 1) = (j : Int) := by omega
      rw [hji]
      clear hji
      have hlt : j < l.length := by omega
      have hlt' : (j : Int) < l.length := by omega
      have j0 : (0 : Int) ≤ j := by omega
      obtain ⟨b, off, S, k, rfl, hbF, d0, d1, d2, hk1, hk2, hrow⟩ := nodes_at HR.out hlt
      have hrow0 := hrow
      have d0 := (hb.cell (p := ⟨b, off + j * 3, none⟩) (hF b hbF)).trans d0
      have d1 := (hb.cell (p := ⟨b, off + j * 3 + 1, none⟩) (hF b hbF)).trans d1
      have d2 := (hb.cell (p := ⟨b, off + j * 3 + 2, none⟩) (hF b hbF)).trans d2
      have hbw := hF b hbF
      have hnz := HZ.out _ (List.getElem_mem hlt)
      have HBAD : Hid (¬ NodeR l[j] → r = 2) := Lib.hid fun h => HB.out hg (bad_node hlt h)
      have HBO : Hid (ordN l j = none → r = 2) := Lib.hid fun h => HB.out hg (bad_ord hlt h)
      have HNX : Hid (∀ m, NodeR l[j] → ordN l j = some m → j ≤ m → Reached l (ml.set j (m - j)) j) := Lib.hid fun m h1 h2 h3 => HRE.out.next hlt h1 h2 h3
      have HFULL : Hid (∀ m, ordA (ordN l) l.length (l[j].args.take l[j].args.length) (j + 1) = some m → ordN l j = some m) := Lib.hid fun m h => ordN_full hlt h
      have HFAIL : Hid (∀ k next (hk : k < l[j].args.length), ordA (ordN l) l.length (l[j].args.take k) (j + 1) = some next → (l[j].args[k] ≠ (next : Int) ∨ ¬ next < l.length ∨ ordN l next = none) → ordN l j = none) := Lib.hid fun k next hk h h1 => ordN_fail hlt hk h h1
      obtain ⟨t, ht⟩ : ∃ t, l[j] = t := ⟨_, rfl⟩
      rw [ht] at d0 d1 d2 hk1 hrow hrow0 hnz HBAD HNX HFULL
      have HFAIL : Hid (∀ k next (hk : k < t.args.length), ordA (ordN l) l.length (t.args.take k) (j + 1) = some next → (t.args[k] ≠ (next : Int) ∨ ¬ next < l.length ∨ ordN l next = none) → ordN l j = none) := Lib.hid (by subst ht; exact HFAIL.out)
      clear ht hb
      obtain ⟨x, y, la⟩ := t
      simp only at d0 d1 d2 hk1 hnz hrow hrow0 HFULL HFAIL
      have hkm := hk2
      unfold maxLen at hkm
      have HROW := Lib.hid hrow
      have HHOLE := Lib.hid (fun wx => rhole_any x y S la k wx hk2 hk1)
      have HRR := Lib.hid (fun wx => refRight_any y wx hnz)
      have hF2 := hF
      have HROWF : Hid (RowOf 1 EInt w F S la) := Lib.hid hrow0
      clear hrow hk2
      obtain ⟨hb1, hhb⟩ : ∃ q, holeB ⟨x, y, la⟩ = q := ⟨_, rfl⟩
      have HHB := Lib.hid hhb
      obtain ⟨rb, hrb⟩ : ∃ q, rightB y.data.toList = q := ⟨_, rfl⟩
      have HRB := Lib.hid hrb
      rw [hhb] at HHOLE
      rw [hrb] at HRR
      clear hhb hrb
      obtain ⟨wo, hwo⟩ : ∃ x, x = wr := ⟨_, rfl⟩
      subst hwo
      go_upto_region 11 with fail
      obtain ⟨u, hu⟩ : ∃ u : World, wo.alloc (.cells #[.int .i64 x, .string y, .slice S la.length k] 66) = u := ⟨_, rfl⟩
      have HB1 : Hid (Below w.heap.size w u) := Lib.hid (by rw [← hu]; exact HBW.out.alloc HBW.out.size _)
      have HX1 : Hid (Blk u w.heap.size 24 #[.slice (some ⟨b, off, none⟩) l.length c]) := Lib.hid (by rw [← hu]; exact HX.out.alloc _)
      have HM1 : Hid (Row1 u (w.heap.size + 1) ml) := Lib.hid (by rw [← hu]; exact Blk.alloc HM.out _)
      have HT1 : Hid (Blk u wo.heap.size 66 #[.int .i64 x, .string y, .slice S la.length k]) := Lib.hid (by rw [← hu]; exact Blk.new _ _ _)
      obtain ⟨q, hq⟩ : ∃ q, wo.heap.size = q := ⟨_, rfl⟩
      have HQ1 : Hid (w.heap.size + 1 < q) := Lib.hid (by omega)
      rw [hu]
      try rw [hq] at HT1 ⊢
      clear hu HBW HX HM d0 d1 d2 hx0 hlx hlm
      have t0 := HT1.out.cell 0; have t1 := HT1.out.cell 1; have t2 := HT1.out.cell 2
      simp at t0 t1 t2
      have HQE := Lib.hid hq
      clear hq
      cases hb1
      · by_cases hx0 : x = 0
        · subst hx0
          cases rb
          · have HZZ : Hid (r = 2) := Lib.hid (HBAD.out (by
              intro h
              rcases h with h | h
              · have := h.1; simp at this
              · have h2 := HRB.out; rw [h.2] at h2; cases h2))
            go_wp2_with fail
            refine (HHOLE.out _).mono ?_
            rintro _ u2 ⟨rfl, hb2⟩
            have HB2 := Lib.hid (HB1.out.trans (hb2.mono HB1.out.size))
            have HX2 := Lib.hid (HX1.out.below hb2 HX1.out.lt); have HM2 : Hid (Row1 u2 (w.heap.size + 1) ml) := Lib.hid (Blk.below HM1.out hb2 (Blk.lt HM1.out)); have HT2 := Lib.hid (HT1.out.below hb2 HT1.out.lt)
            clear hb2 HB1 HX1 HM1 HT1 t0 t1 t2
            have t0 := HT2.out.cell 0; have t1 := HT2.out.cell 1
            simp at t0 t1
            go_wp2_with fail
            refine (HRR.out _).mono ?_
            rintro _ u3 ⟨rfl, hu3⟩
            subst hu3
            clear t0 t1
            go_wp2
            go_ret
            exact ⟨by rw [HZZ.out]; rfl, HB2.out⟩
          · have HZZ : Hid (NodeR ⟨0, y, la⟩) := Lib.hid (.inr ⟨rfl, HRB.out⟩)
            go_wp2_with fail
            refine (HHOLE.out _).mono ?_
            rintro _ u2 ⟨rfl, hb2⟩
            have HB2 := Lib.hid (HB1.out.trans (hb2.mono HB1.out.size))
            have HX2 := Lib.hid (HX1.out.below hb2 HX1.out.lt); have HM2 : Hid (Row1 u2 (w.heap.size + 1) ml) := Lib.hid (Blk.below HM1.out hb2 (Blk.lt HM1.out)); have HT2 := Lib.hid (HT1.out.below hb2 HT1.out.lt)
            clear hb2 HB1 HX1 HM1 HT1 t0 t1 t2
            have t0 := HT2.out.cell 0; have t1 := HT2.out.cell 1
            simp at t0 t1
            go_wp2_with fail
            refine (HRR.out _).mono ?_
            rintro _ u3 ⟨rfl, hu3⟩
            subst hu3
            clear t0 t1
            have t2 := HT2.out.cell 2
            simp at t2
            go_upto_region 15 with fail
            clear t2
            go_loopg [7, 8] la.length (fun g s7 s8 wx => ∃ (kk next : Nat), s8 = .int .i64 kk ∧ s7 = .int .i64 next ∧ g = la.length - kk ∧ kk ≤ la.length ∧ j < next ∧ next ≤ l.length ∧ ordA (ordN l) l.length (la.take kk) (j + 1) = some next ∧ Below w.heap.size w wx ∧ Blk wx w.heap.size 24 #[.slice (some ⟨b, off, none⟩) l.length c] ∧ Row1 wx (w.heap.size + 1) ml ∧ Blk wx q 66 #[.int .i64 0, .string y, .slice S la.length k])
            case atStart => exact ⟨0, j + 1, rfl, by go_num, rfl, Nat.zero_le _, by omega, by omega, rfl, HB2.out, HX2.out, HM2.out, HT2.out⟩
            case round =>
              clear HB2 HX2 HM2 HT2
              obtain ⟨kk, next, rfl, rfl, rfl, hkk, hn1, hn2, ho, hb, hx, hm, ht⟩ := hrel
              have HB3 := Lib.hid hb; have HX3 := Lib.hid hx; have HM3 := Lib.hid hm; have HT3 := Lib.hid ht; have HO := Lib.hid ho
              have t2 := ht.cell 2
              simp at t2
              have hlt3 := ht.lt
              clear hx hm ht ho
              have kk0 : (0 : Int) ≤ kk := by omega
              have nx0 : (0 : Int) ≤ next := by omega
              by_cases hkl : kk < la.length
              · have hkl' : (kk : Int) < la.length := by omega
                obtain ⟨g, o, rfl, hgF, a1⟩ := ints_at (RowOf.keep EInt.stays (Keep.below hb hF2) (F' := F) (fun _ h => h) HROWF.out) hkl
                have HSTEP : Hid (∀ m, la[kk] = (next : Int) → next < l.length → ordN l next = some m → ordA (ordN l) l.length (la.take (kk + 1)) (j + 1) = some m) := Lib.hid fun m h1 h2 h3 => ordA_step hkl HO.out h1 h2 h3
                have HF := Lib.hid (HFAIL.out kk next hkl HO.out)
                generalize la[kk] = a at *
                clear hb
                by_cases ha : a = (next : Int)
                · subst ha
                  have e1 : ((next : Int) != next) = false := by simp
                  by_cases hnl : next < l.length
                  · have hnl' : ¬ (l.length : Int) ≤ next := by omega
                    have hml : next < ml.length := by rw [HRE.out.len]; exact hnl
                    have hr2 : ordN l next = some (next + ml[next]) := (HRE.out.ok next hnl hml (by omega)).2
                    have HYES := Lib.hid (HSTEP.out _ rfl hnl hr2)
                    obtain ⟨g1', g2'⟩ := ordN_gt hr2
                    have m0 := HM3.out.cell hml
                    have hml' : (next : Int) < l.length := by omega
                    generalize ml[next] = mm at *
                    clear hr2
                    go_wp2
                    go_roundg (la.length - (kk + 1))
                    case measure => omega
                    case rel => exact ⟨kk + 1, next + mm, by go_num, by go_num, rfl, by omega, by omega, g2', HYES.out, HB3.out, HX3.out, HM3.out, HT3.out⟩
                  · have hnl' : (l.length : Int) ≤ next := by omega
                    have HZ2 : Hid (r = 2) := Lib.hid (HBO.out (HF.out (.inr (.inl hnl))))
                    go_wp2
                    go_ret
                    exact ⟨by rw [HZ2.out]; rfl, HB3.out⟩
                · have e1 : (a != (next : Int)) = true := by simp; exact ha
                  have HZ2 : Hid (r = 2) := Lib.hid (HBO.out (HF.out (.inl ha)))
                  clear ha
                  go_wp2
                  go_ret
                  exact ⟨by rw [HZ2.out]; rfl, HB3.out⟩
              · have hkl' : ¬ (kk : Int) < la.length := by omega
                have hfull : ordN l j = some next := HFULL.out next (by rw [show la.length = kk by omega]; exact HO.out)
                have HNEW := Lib.hid (HNX.out next HZZ.out hfull (by omega))
                have hjm : j < ml.length := by rw [HRE.out.len]; exact hlt
                have e4 := Blk.frozen HM3.out j
                have c4 := HM3.out.cell hjm
                have hsub : (next : Int) - j = ((next - j : Nat) : Int) := by omega
                have HSUB := Lib.hid hsub
                generalize ml[j] = mj at c4
                clear hfull hsub hb
                go_wp2
                go_roundg j
                case measure => omega
                case rel => exact ⟨j, ml.set j (next - j), by go_num, rfl, by omega, HB3.out.setCell (p := ⟨w.heap.size + 1, j, none⟩) (by show w.heap.size ≤ w.heap.size + 1; omega) _, HX3.out.far (p := ⟨w.heap.size + 1, j, none⟩) (by show w.heap.size ≠ w.heap.size + 1; omega) _, by rw [HSUB.out]; exact HM3.out.set_ j (next - j), HNEW.out⟩
        · have hx1 : (x != 0) = true := by simp; exact hx0
          have HZZ : Hid (r = 2) := Lib.hid (HBAD.out (by
            intro h
            rcases h with h | h
            · have := holeB_iff.2 h; rw [HHB.out] at this; cases this
            · exact hx0 h.1))
          go_wp2_with fail
          refine (HHOLE.out _).mono ?_
          rintro _ u2 ⟨rfl, hb2⟩
          have HB2 := Lib.hid (HB1.out.trans (hb2.mono HB1.out.size))
          have HX2 := Lib.hid (HX1.out.below hb2 HX1.out.lt); have HM2 : Hid (Row1 u2 (w.heap.size + 1) ml) := Lib.hid (Blk.below HM1.out hb2 (Blk.lt HM1.out)); have HT2 := Lib.hid (HT1.out.below hb2 HT1.out.lt)
          clear hb2 HB1 HX1 HM1 HT1 t0 t1 t2
          have t0 := HT2.out.cell 0; have t1 := HT2.out.cell 1
          simp at t0 t1
          go_wp2
          clear t0 t1
          go_ret
          exact ⟨by rw [HZZ.out]; rfl, HB2.out⟩
      · have HZZ : Hid (NodeR ⟨x, y, la⟩) := Lib.hid (.inl (holeB_iff.1 HHB.out))
        go_wp2_with fail
        refine (HHOLE.out _).mono ?_
        rintro _ u2 ⟨rfl, hb2⟩
        have HB2 := Lib.hid (HB1.out.trans (hb2.mono HB1.out.size))
        have HX2 := Lib.hid (HX1.out.below hb2 HX1.out.lt); have HM2 : Hid (Row1 u2 (w.heap.size + 1) ml) := Lib.hid (Blk.below HM1.out hb2 (Blk.lt HM1.out)); have HT2 := Lib.hid (HT1.out.below hb2 HT1.out.lt)
        clear hb2 HB1 HX1 HM1 HT1 t0 t1 t2
        have t0 := HT2.out.cell 0; have t1 := HT2.out.cell 1
        simp at t0 t1
        clear t0 t1
        have t2 := HT2.out.cell 2
        simp at t2
        go_upto_region 15 with fail
        clear t2
        go_loopg [7, 8] la.length (fun g s7 s8 wx => ∃ (kk next : Nat), s8 = .int .i64 kk ∧ s7 = .int .i64 next ∧ g = la.length - kk ∧ kk ≤ la.length ∧ j < next ∧ next ≤ l.length ∧ ordA (ordN l) l.length (la.take kk) (j + 1) = some next ∧ Below w.heap.size w wx ∧ Blk wx w.heap.size 24 #[.slice (some ⟨b, off, none⟩) l.length c] ∧ Row1 wx (w.heap.size + 1) ml ∧ Blk wx q 66 #[.int .i64 x, .string y, .slice S la.length k])
        case atStart => exact ⟨0, j + 1, rfl, by go_num, rfl, Nat.zero_le _, by omega, by omega, rfl, HB2.out, HX2.out, HM2.out, HT2.out⟩
        case round =>
          clear HB2 HX2 HM2 HT2
          obtain ⟨kk, next, rfl, rfl, rfl, hkk, hn1, hn2, ho, hb, hx, hm, ht⟩ := hrel
          have HB3 := Lib.hid hb; have HX3 := Lib.hid hx; have HM3 := Lib.hid hm; have HT3 := Lib.hid ht; have HO := Lib.hid ho
          have t2 := ht.cell 2
          simp at t2
          have hlt3 := ht.lt
          clear hx hm ht ho
          have kk0 : (0 : Int) ≤ kk := by omega
          have nx0 : (0 : Int) ≤ next := by omega
          by_cases hkl : kk < la.length
          · have hkl' : (kk : Int) < la.length := by omega
            obtain ⟨g, o, rfl, hgF, a1⟩ := ints_at (RowOf.keep EInt.stays (Keep.below hb hF2) (F' := F) (fun _ h => h) HROWF.out) hkl
            have HSTEP : Hid (∀ m, la[kk] = (next : Int) → next < l.length → ordN l next = some m → ordA (ordN l) l.length (la.take (kk + 1)) (j + 1) = some m) := Lib.hid fun m h1 h2 h3 => ordA_step hkl HO.out h1 h2 h3
            have HF := Lib.hid (HFAIL.out kk next hkl HO.out)
            generalize la[kk] = a at *
            clear hb
            by_cases ha : a = (next : Int)
            · subst ha
              have e1 : ((next : Int) != next) = false := by simp
              by_cases hnl : next < l.length
              · have hnl' : ¬ (l.length : Int) ≤ next := by omega
                have hml : next < ml.length := by rw [HRE.out.len]; exact hnl
                have hr2 : ordN l next = some (next + ml[next]) := (HRE.out.ok next hnl hml (by omega)).2
                have HYES := Lib.hid (HSTEP.out _ rfl hnl hr2)
                obtain ⟨g1', g2'⟩ := ordN_gt hr2
                have m0 := HM3.out.cell hml
                have hml' : (next : Int) < l.length := by omega
                generalize ml[next] = mm at *
                clear hr2
                go_wp2
                go_roundg (la.length - (kk + 1))
                case measure => omega
                case rel => exact ⟨kk + 1, next + mm, by go_num, by go_num, rfl, by omega, by omega, g2', HYES.out, HB3.out, HX3.out, HM3.out, HT3.out⟩
              · have hnl' : (l.length : Int) ≤ next := by omega
                have HZ2 : Hid (r = 2) := Lib.hid (HBO.out (HF.out (.inr (.inl hnl))))
                go_wp2
                go_ret
                exact ⟨by rw [HZ2.out]; rfl, HB3.out⟩
            · have e1 : (a != (next : Int)) = true := by simp; exact ha
              have HZ2 : Hid (r = 2) := Lib.hid (HBO.out (HF.out (.inl ha)))
              clear ha
              go_wp2
              go_ret
              exact ⟨by rw [HZ2.out]; rfl, HB3.out⟩
          · have hkl' : ¬ (kk : Int) < la.length := by omega
            have hfull : ordN l j = some next := HFULL.out next (by rw [show la.length = kk by omega]; exact HO.out)
            have HNEW := Lib.hid (HNX.out next HZZ.out hfull (by omega))
            have hjm : j < ml.length := by rw [HRE.out.len]; exact hlt
            have e4 := Blk.frozen HM3.out j
            have c4 := HM3.out.cell hjm
            have hsub : (next : Int) - j = ((next - j : Nat) : Int) := by omega
            have HSUB := Lib.hid hsub
            generalize ml[j] = mj at c4
            clear hfull hsub hb
            go_wp2
            go_roundg j
            case measure => omega
            case rel => exact ⟨j, ml.set j (next - j), by go_num, rfl, by omega, HB3.out.setCell (p := ⟨w.heap.size + 1, j, none⟩) (by show w.heap.size ≤ w.heap.size + 1; omega) _, HX3.out.far (p := ⟨w.heap.size + 1, j, none⟩) (by show w.heap.size ≠ w.heap.size + 1; omega) _, by rw [HSUB.out]; exact HM3.out.set_ j (next - j), HNEW.out⟩
end Go.Proofs.Ytgcbnndbeoekgaa
end
