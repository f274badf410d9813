import Derived.Test.YtgcbnndbeoekgaaDoorSubP
import Derived.Test.YtgcbnndbeoekgaaDoorNameWalks
import Derived.Deep.LoopGhost
import Derived.Test.YtgcbnndbeoekgaaDoorRegX
import Derived.Lib.QuietBelow
import Derived.Deep.DeepCutAuto
set_option linter.unusedSimpArgs false
set_option linter.unusedVariables false
section
/- unify.ordered -/
namespace Go.Proofs.YtgcbnndbeoekgaaDoor
open Go Go.RowKit

def ordI (l : List TN) (i : Nat) : Int := match ordN l i with | some m => m | none => -1
theorem ordI_some {l : List TN} {i m : Nat} (h : ordN l i = some m) : ordI l i = m := by unfold ordI; rw [h]
theorem ordI_none {l : List TN} {i : Nat} (h : ordN l i = none) : ordI l i = -1 := by unfold ordI; rw [h]

set_option maxRecDepth 100000 in
set_option maxHeartbeats 1000000 in
theorem ordered_any (d : Nat) : ∀ (A : Option Addr) (c : Nat) (l : List TN) (i : Nat) (w : World) (F : Nat → Prop), l.length - i ≤ d → i < l.length → l.length ≤ c → c ≤ maxLen → RowOf 3 ETN w F A l →
    Calls Tryd.prog 24 #[.slice A l.length c, .int .i64 i] w fun e w' => e = .returned (.int .i64 (ordI l i)) ∧ w = w' := by
  induction d with
  | zero => intro A c l i w F h hi; omega
  | succ d ih =>
    intro A c l i w F h hi hlc hc hr
    obtain ⟨b, off, S, k, rfl, hbF, d0, d1, d2, hk1, hk2, hrow⟩ := nodes_at hr hi
    have HR := Lib.hid hr
    obtain ⟨la, hla⟩ : ∃ la, l[i].args = la := ⟨_, rfl⟩
    have HFULL : Hid (∀ m, ordA (ordN l) l.length (la.take la.length) (i + 1) = some m → ordI l i = (m : Int)) := Lib.hid (by subst hla; exact fun m h => ordI_some (ordN_full hi h))
    have HFAIL : Hid (∀ k next (hk : k < la.length), ordA (ordN l) l.length (la.take k) (i + 1) = some next → (la[k] ≠ (next : Int) ∨ ¬ next < l.length ∨ ordN l next = none) → ordI l i = -1) := Lib.hid (by subst hla; exact fun k next hk h h1 => ordI_none (ordN_fail hi hk h h1))
    have HREC : Hid (∀ j : Nat, i < j → j < l.length → Calls Tryd.prog 24 #[.slice (some ⟨b, off, none⟩) l.length c, .int .i64 j] w fun e w' => e = .returned (.int .i64 (ordI l j)) ∧ w = w') := Lib.hid fun j hj hjl => ih _ c l j w F (by omega) hjl hlc hc hr
    rw [hla] at d2 hk1 hrow
    clear hla hr ih d0 d1
    have m1 : (0 : Int) ≤ i := by omega
    have m2 : (i : Int) < l.length := by omega
    unfold maxLen at hc hk2
    have hll : l.length ≤ 9223372036854775807 := by omega
    go_enter Tryd.func24, Tryd.ntmps24
    go_wp2
    go_loop [5, 16] (fun n x => ∃ j next : Nat, x = .int .i64 j ∧ n = .int .i64 next ∧ j ≤ la.length ∧ i < next ∧ next ≤ l.length ∧ ordA (ordN l) l.length (la.take j) (i + 1) = some next) (fun _ x => la.length - (intOf x).toNat)
    case atStart => exact ⟨0, i + 1, rfl, by go_num, Nat.zero_le _, by omega, by omega, rfl⟩
    case round =>
      obtain ⟨j, next, rfl, rfl, hj, hn1, hn2, ho⟩ := hrel
      have HO := Lib.hid ho
      clear ho
      by_cases hjl : j < la.length
      · obtain ⟨g, o, rfl, hg, a1⟩ := ints_at hrow hjl
        have n1 : (0 : Int) ≤ j := by omega
        have n2 : (j : Int) < la.length := by omega
        have HSTEP : Hid (∀ m, la[j] = (next : Int) → next < l.length → ordN l next = some m → ordA (ordN l) l.length (la.take (j + 1)) (i + 1) = some m) := Lib.hid fun m h1 h2 h3 => ordA_step hjl HO.out h1 h2 h3
        have HF := Lib.hid (HFAIL.out j next hjl HO.out)
        generalize la[j] = x at *
        by_cases hx : x = (next : Int)
        · subst hx
          by_cases hnl : next < l.length
          · have HC := HREC.out next hn1 hnl
            cases hm : ordN l next with
            | none =>
              have HNO := Lib.hid (HF.out (.inr (.inr hm)))
              rw [ordI_none hm] at HC
              clear hm
              have e1 : ((next : Int) != next) = false := by simp
              have e2 : (next : Int) < l.length := by omega
              go_wp2_with (go_at_call 24; refine HC.mono ?_; rintro e w' ⟨rfl, rfl⟩)
              go_ret
              exact ⟨by rw [HNO.out]; rfl, rfl⟩
            | some m =>
              have HYES := Lib.hid (HSTEP.out m rfl hnl hm)
              have hmg := ordN_gt hm
              obtain ⟨hm1, hm2⟩ := hmg
              rw [ordI_some hm] at HC
              clear hm
              have e1 : ((next : Int) != next) = false := by simp
              have e2 : (next : Int) < l.length := by omega
              go_wp2_with (go_at_call 24; refine HC.mono ?_; rintro e w' ⟨rfl, rfl⟩)
              go_round
              case rel => exact ⟨j + 1, m, by go_num, rfl, by omega, by omega, hm2, HYES.out⟩
              case measure => simp [intOf] <;> omega
          · have HNO := Lib.hid (HF.out (.inr (.inl hnl)))
            have e1 : ((next : Int) != next) = false := by simp
            have e2 : ¬ (next : Int) < l.length := by omega
            go_wp2
            go_ret
            exact ⟨by rw [HNO.out]; rfl, rfl⟩
        · have HNO := Lib.hid (HF.out (.inl hx))
          have e1 : (x != next) = true := by simp; exact hx
          clear hx
          go_wp2
          go_ret
          exact ⟨by rw [HNO.out]; rfl, rfl⟩
      · have HY : Hid (ordI l i = (next : Int)) := Lib.hid (HFULL.out next (by rw [show la.length = j by omega]; exact HO.out))
        have e1 : ¬ (j : Int) < la.length := by omega
        go_wp2
        go_ret
        exact ⟨by rw [HY.out]; rfl, rfl⟩
end Go.Proofs.YtgcbnndbeoekgaaDoor
end
section
/- which nodes are holes; both sides' Right -/
namespace Go.Proofs.YtgcbnndbeoekgaaDoor
open Go Go.RowKit

theorem empty_of {s : ByteArray} (h : s.size = 0) : s = ⟨#[]⟩ := by
  cases s with
  | mk d => have : d.size = 0 := h; rw [Array.size_eq_zero_iff.1 this]
theorem nonempty_ne {s : ByteArray} (h : s.size ≠ 0) : ¬ s.toList = [] := by
  rw [ByteArray.toList_eq]
  intro e
  exact h (by have : s.data.toList.length = s.size := rfl; rw [e] at this; exact this.symm)
theorem nonempty_is {s : ByteArray} (h : s.size ≠ 0) : s.toList.isEmpty = false := by
  cases e : s.toList.isEmpty with
  | false => rfl
  | true => exact absurd (List.isEmpty_iff.1 e) (nonempty_ne h)

end Go.Proofs.YtgcbnndbeoekgaaDoor
end
section
/- unify.Right -/
namespace Go.Proofs.YtgcbnndbeoekgaaDoor
open Go Go.RowKit

theorem right_is {w : World} {x : ByteArray} {r : Bool} (h : rightB x.data.toList = r) (c : Calls Tryd.prog 23 #[.string x] w fun e w' => e = .returned (.bool (rightB x.data.toList)) ∧ w = w') : Calls Tryd.prog 23 #[.string x] w fun e w' => e = .returned (.bool r) ∧ w = w' := by rw [← h]; exact c
theorem take_right {l : List TN} {i : Nat} (hi : i < l.length) (h : ∀ t ∈ l.take i, NodeR t) (h1 : NodeR l[i]) : ∀ t ∈ l.take (i + 1), NodeR t := by
  rw [List.take_succ_eq_append_getElem hi]
  intro t ht
  rcases List.mem_append.1 ht with ht | ht
  · exact h t ht
  · simp only [List.mem_cons, List.not_mem_nil, or_false] at ht; subst ht; exact h1
theorem bel_drewN {B : Nat} {w w' : World} (h : Below B w w') (n : Nat) : Below B w (w'.drewN n) := by
  induction n with
  | zero => exact h
  | succ n ih => exact ih.drew

set_option maxRecDepth 100000 in
set_option maxHeartbeats 4000000 in
theorem uright_any (A : Option Addr) (c : Nat) (l : List TN) (w : World) (F : Nat → Prop) (hF : ∀ b, F b → b < w.heap.size) (hr : RowOf 3 ETN w F A l) (hlc : l.length ≤ c) (hc : c ≤ maxLen) (hz : ∀ t ∈ l, t.name.size ≤ 9223372036854775807) :
    Calls Tryd.prog 9 #[.agg #[.slice A l.length c]] w fun e w' => e = .returned (.int .i64 (rightI l)) ∧ Below w.heap.size w w' := by
  have HR := Lib.hid hr
  obtain ⟨r, hrr⟩ : ∃ r, rightI l = r := ⟨_, rfl⟩
  have HL : Hid (256 < l.length → r = 3) := Lib.hid (fun h => by rw [← hrr]; exact rightI_long h)
  have HB : Hid (¬ 256 < l.length → ¬ GoodN l → r = 2) := Lib.hid (fun h h2 => by rw [← hrr]; exact rightI_bad h h2)
  have HG : Hid (¬ 256 < l.length → GoodN l → r = 0) := Lib.hid (fun h h2 => by rw [← hrr]; exact rightI_good h h2)
  have HZ := Lib.hid hz
  have HOR : Hid (∀ w', Below w.heap.size w w' → 0 < l.length → Calls Tryd.prog 24 #[.slice A l.length c, .int .i64 ((0 : Nat) : Int)] w' fun e w2 => e = .returned (.int .i64 (ordI l 0)) ∧ w' = w2) := Lib.hid fun w' hb h0 => ordered_any l.length A c l 0 w' F (by omega) h0 hlc hc (hr.keep ETN.stays (Keep.below hb hF) (fun _ h => h))
  rw [hrr]
  clear hrr hr hz
  unfold maxLen at hc
  have hll : l.length ≤ 9223372036854775807 := by omega
  by_cases hg : 256 < l.length
  · have HX : Hid (r = 3) := Lib.hid (HL.out hg)
    have g1 : (256 : Int) < l.length := by omega
    go_enter Tryd.func9, Tryd.ntmps9
    go_wp2
    go_ret
    exact ⟨by rw [HX.out]; rfl, (Below.refl _ _).alloc (Nat.le_refl _) _⟩
  have g1 : ¬ (256 : Int) < l.length := by omega
  by_cases h0 : l.length = 0
  · have HX : Hid (r = 2) := Lib.hid (HB.out hg (by rw [List.eq_nil_of_length_eq_zero h0]; intro h; have := h.2; cases this))
    have e0 : ((l.length : Int) == 0) = true := by rw [h0]; rfl
    have H0 := Lib.hid h0
    clear h0
    go_enter Tryd.func9, Tryd.ntmps9
    go_wp2
    go_ret
    exact ⟨by rw [HX.out]; rfl, (Below.refl _ _).alloc (Nat.le_refl _) _⟩
  have e0 : ((l.length : Int) == 0) = false := beq_eq_false_iff_ne.2 (by omega)
  go_enter Tryd.func9, Tryd.ntmps9
  go_wp2
  go_loopg [17] l.length (fun g s17 wx => ∃ i : Nat, s17 = .int .i64 i ∧ g = l.length - i ∧ i ≤ l.length ∧ (∀ t ∈ l.take i, NodeR t) ∧ Below w.heap.size w wx ∧ Blk wx w.heap.size 24 #[.slice A l.length c])
  case atStart => exact ⟨0, rfl, rfl, Nat.zero_le _, by simp, (Below.refl _ _).alloc (Nat.le_refl _) _, Blk.new _ _ _⟩
  case round =>
    obtain ⟨i, rfl, rfl, hi, hall, hb, hx⟩ := hrel
    have HBW := Lib.hid hb; have HX := Lib.hid hx; have HALL := Lib.hid hall
    have hx0 := hx.cell 0
    simp at hx0
    have hlx := hx.lt
    clear hx hall
    have i0 : (0 : Int) ≤ i := by omega
    by_cases hlt : i < l.length
    · have hR := RowOf.keep ETN.stays (Keep.below hb hF) (F' := F) (fun _ h => h) HR.out
      obtain ⟨b, off, S, k, rfl, hbF, d0, d1, d2, hk1, hk2, hrow⟩ := nodes_at hR hlt
      have hlt' : (i : Int) < l.length := by omega
      have hnz := HZ.out _ (List.getElem_mem hlt)
      have HBAD : Hid (¬ NodeR l[i] → r = 2) := Lib.hid fun h => HB.out hg (bad_node hlt h)
      have HGOOD : Hid (NodeR l[i] → ∀ t ∈ l.take (i + 1), NodeR t) := Lib.hid fun h => take_right hlt HALL.out h
      obtain ⟨t, ht⟩ : ∃ t, l[i] = t := ⟨_, rfl⟩
      rw [ht] at d0 d1 d2 hk1 hrow hnz HBAD HGOOD
      clear ht hb hR hrow
      obtain ⟨x, y, la⟩ := t
      obtain ⟨n, hn⟩ : ∃ n, la.length = n := ⟨_, rfl⟩
      have HBAD2 : Hid (¬ ((1 ≤ x ∧ x ≤ 2147483647 ∧ y.size = 0 ∧ n = 0) ∨ (x = 0 ∧ rightB y.data.toList = true)) → r = 2) := Lib.hid (fun h => HBAD.out (fun hn2 => h (by rw [← hn]; exact hn2)))
      have HGOOD2 : Hid (((1 ≤ x ∧ x ≤ 2147483647 ∧ y.size = 0 ∧ n = 0) ∨ (x = 0 ∧ rightB y.data.toList = true)) → ∀ t ∈ l.take (i + 1), NodeR t) := Lib.hid (fun h => HGOOD.out (by rw [← hn] at h; exact h))
      simp only at d0 d1 d2 hk1 hnz
      rw [hn] at d2 hk1
      clear hn HBAD HGOOD
      unfold maxLen at hk2
      have n0 : (0 : Int) ≤ n := by omega
      by_cases h1 : (0 : Int) < x
      · by_cases h2 : x ≤ 2147483647
        · by_cases h3 : y.size = 0
          · obtain rfl := empty_of h3
            clear h3
            by_cases h4 : n = 0
            · subst h4
              have HZZ := Lib.hid (HGOOD2.out (by exact .inl ⟨by omega, h2, rfl, rfl⟩))
              clear HBAD2 HGOOD2
              go_wp2
              go_roundg (l.length - (i + 1))
              case measure => omega
              case rel => exact ⟨i + 1, by go_num, rfl, by omega, HZZ.out, HBW.out.alloc HBW.out.size _, HX.out.alloc _⟩
            · have e4 : ((n : Int) == 0) = false := by simp; exact h4
              have h4' : ¬ (n : Int) = 0 := by omega
              have e5 : (x != 0) = true := by simp; omega
              have HZZ : Hid (r = 2) := Lib.hid (HBAD2.out (by omega))
              clear HBAD2 HGOOD2
              go_wp2
              go_ret
              exact ⟨by rw [HZZ.out]; rfl, HBW.out.alloc HBW.out.size _⟩
          · have e3 := nonempty_is h3
            have e3' := nonempty_ne h3
            have e5 : (x != 0) = true := by simp; omega
            have HZZ : Hid (r = 2) := Lib.hid (HBAD2.out (by omega))
            clear HBAD2 HGOOD2
            go_wp2
            go_ret
            exact ⟨by rw [HZZ.out]; rfl, HBW.out.alloc HBW.out.size _⟩
        · have e5 : (x != 0) = true := by simp; omega
          have HZZ : Hid (r = 2) := Lib.hid (HBAD2.out (by omega))
          clear HBAD2 HGOOD2
          go_wp2
          go_ret
          exact ⟨by rw [HZZ.out]; rfl, HBW.out.alloc HBW.out.size _⟩
      · by_cases h5 : x = 0
        · subst h5
          cases hrb : rightB y.data.toList
          · have HRB := Lib.hid hrb
            have HZZ : Hid (r = 2) := Lib.hid (HBAD2.out (by rw [hrb]; simp))
            clear HBAD2 HGOOD2
            go_wp2_with (go_at_call 23; refine (right_is HRB.out (right_any _ _ hnz)).mono ?_; rintro e w' ⟨rfl, rfl⟩)
            go_ret
            exact ⟨by rw [HZZ.out]; rfl, HBW.out.alloc HBW.out.size _⟩
          · have HRB := Lib.hid hrb
            have HZZ := Lib.hid (HGOOD2.out (by exact .inr ⟨rfl, hrb⟩))
            clear HBAD2 HGOOD2
            go_wp2_with (go_at_call 23; refine (right_is HRB.out (right_any _ _ hnz)).mono ?_; rintro e w' ⟨rfl, rfl⟩)
            go_roundg (l.length - (i + 1))
            case measure => omega
            case rel => exact ⟨i + 1, by go_num, rfl, by omega, HZZ.out, HBW.out.alloc HBW.out.size _, HX.out.alloc _⟩
        · have e5 : (x != 0) = true := by simp; exact h5
          have HZZ : Hid (r = 2) := Lib.hid (HBAD2.out (by omega))
          clear HBAD2 HGOOD2
          go_wp2
          go_ret
          exact ⟨by rw [HZZ.out]; rfl, HBW.out.alloc HBW.out.size _⟩
    · have hia : i = l.length := by omega
      have HALL2 : Hid (∀ t ∈ l, NodeR t) := Lib.hid (by have := HALL.out; rw [hia, List.take_length] at this; exact this)
      have hlt' : ¬ (i : Int) < l.length := by omega
      have HC := HOR.out wr HBW.out (by omega)
      by_cases ho : ordN l 0 = some l.length
      · have HZZ : Hid (r = 0) := Lib.hid (HG.out hg ⟨HALL2.out, ho⟩)
        rw [ordI_some ho] at HC
        clear ho hb
        go_wp2_with (go_at_call 24; refine HC.mono ?_; rintro e w' ⟨rfl, rfl⟩)
        go_ret
        exact ⟨by rw [HZZ.out]; rfl, HBW.out⟩
      · have HZZ : Hid (r = 2) := Lib.hid (HB.out hg (bad_end ho))
        have hne : ordI l 0 ≠ (l.length : Int) := by
          intro e
          cases h : ordN l 0 with
          | none => rw [ordI_none h] at e; omega
          | some m => rw [ordI_some h] at e; exact ho (by rw [h]; congr 1; omega)
        have hne' : (ordI l 0 != (l.length : Int)) = true := by simp; exact hne
        clear ho hb hne
        go_wp2_with (go_at_call 24; refine HC.mono ?_; rintro e w' ⟨rfl, rfl⟩)
        go_ret
        exact ⟨by rw [HZZ.out]; rfl, HBW.out⟩
end Go.Proofs.YtgcbnndbeoekgaaDoor
end
section
/- the document's Right -/
namespace Go.Proofs.YtgcbnndbeoekgaaDoor
open Go Go.RowKit

theorem int_info15 : (Tryd.prog.info? 3).map (fun i => (i.zero, i.size, i.bytes)) = some (some (.int .i64 0), 1, 8) := by kernel_rfl
/-- a row of numbers that stands in a block -/
def Row1 (w : World) (g : Nat) (l : List Nat) : Prop := Blk w g 3 (l.map fun n : Nat => Value.int .i64 n).toArray
theorem Row1.cell {w : World} {g : Nat} {l : List Nat} (h : Row1 w g l) {i : Nat} (hi : i < l.length) : w.cell? ⟨g, i, none⟩ = some (.int .i64 l[i]) := by
  rw [Blk.cell h i]; simp [hi]
theorem Row1.set_ {w : World} {g : Nat} {l : List Nat} (h : Row1 w g l) (i : Nat) (b : Nat) : Row1 (w.setCell ⟨g, i, none⟩ (.int .i64 b)) g (l.set i b) := by
  have := Blk.set_ h i (.int .i64 b)
  unfold Row1
  rw [List.map_set]
  simpa using this
theorem Row1.made (w : World) (k : Nat) : Row1 (w.alloc (.cells (madeCells #[.int .i64 0] k) 3)) w.heap.size (List.replicate k 0) := by
  have e : madeCells #[.int .i64 0] k = ((List.replicate k 0).map fun n : Nat => Value.int .i64 n).toArray := by
    unfold madeCells
    apply Array.ext
    · simp
    · intro i h1 h2
      simp [Nat.mod_one]
  unfold Row1
  rw [← e]; exact Blk.new _ _ _
/-- how far the nodes from a place on reach -/
structure Reached (l : List TN) (ml : List Nat) (i : Nat) : Prop where
  len : ml.length = l.length
  ok : ∀ j (h : j < l.length) (h' : j < ml.length), i ≤ j → NodeR l[j] ∧ ordN l j = some (j + ml[j])
theorem Reached.start (l : List TN) : Reached l (List.replicate l.length 0) l.length := ⟨by simp, fun j h _ h2 => by omega⟩
theorem Reached.next {l : List TN} {ml : List Nat} {j m : Nat} (h : Reached l ml (j + 1)) (hj : j < l.length) (hn : NodeR l[j]) (ho : ordN l j = some m) (hm : j ≤ m) : Reached l (ml.set j (m - j)) j := by
  refine ⟨by simp [h.len], fun k hk hk' hjk => ?_⟩
  by_cases e : j = k
  · subst e
    refine ⟨hn, ?_⟩
    rw [List.getElem_set_self, ho]; congr 1; omega
  · rw [List.getElem_set_ne e]
    exact h.ok k hk (by simpa using hk') (by omega)

end Go.Proofs.YtgcbnndbeoekgaaDoor
end
