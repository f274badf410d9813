/- the nodes in which two of three models differ: plain -/
import Derived.Test.YtpjkifbicfcajaaHTouchLaw
set_option linter.unusedSimpArgs false
set_option linter.unusedVariables false
namespace Go.Proofs.Ytpjkifbicfcajaa
open Go Go.RowKit

theorem rise_ext {l l' : List Int} (h : l.Pairwise (· < ·)) (h' : l'.Pairwise (· < ·)) (hm : ∀ n, n ∈ l ↔ n ∈ l') : l = l' :=
  sorted_eq (perm_of_mem (h.imp (fun h => by omega)) (h'.imp (fun h => by omega)) hm) (h.imp (fun h => by omega)) h'
section
variable {a b c : AModel}
theorem ris_of_zero (h : checkI a = 0) : Ris a.nodes := ris_of_ids (check_of_zero h).1
theorem touchE_two (a b : AModel) : touchE a b = 0 ∨ touchE a b = 29 := by
  unfold touchE
  split
  · exact .inl rfl
  · exact .inr rfl
theorem touchE_zero (h : touchE a b = 0) : checkI a = 0 ∧ checkI b = 0 := by
  unfold touchE at h
  split at h
  · assumption
  · cases h
theorem touchE_yes (h : checkI a = 0) (h' : checkI b = 0) : touchE a b = 0 := by unfold touchE; rw [if_pos ⟨h, h'⟩]
theorem touchE_sym (a b : AModel) : touchE a b = touchE b a := by
  unfold touchE
  by_cases h : checkI a = 0 ∧ checkI b = 0
  · rw [if_pos h, if_pos ⟨h.2, h.1⟩]
  · rw [if_neg h, if_neg (fun e => h ⟨e.2, e.1⟩)]
theorem touchL_no (h : touchE a b = 29) : touchL a b = [] := by
  unfold touchL
  rw [if_neg (fun e => by rw [touchE_yes e.1 e.2] at h; cases h)]
theorem touchL_spec (h : checkI a = 0) (h' : checkI b = 0) : (touchL a b).Pairwise (· < ·) ∧ ∀ n, n ∈ touchL a b ↔ Diff a.nodes b.nodes n := by
  unfold touchL
  rw [if_pos ⟨h, h'⟩]
  exact mergeT_spec _ _ _ (Nat.le_refl _) (ris_of_zero h) (ris_of_zero h')
theorem Diff.sym {a b : List ANode} {n : Int} (h : Diff a b n) : Diff b a n := h.elim .inr .inl
theorem touchL_sym (a b : AModel) : touchL a b = touchL b a := by
  by_cases h : checkI a = 0 ∧ checkI b = 0
  · obtain ⟨h1, h2⟩ := touchL_spec h.1 h.2
    obtain ⟨h3, h4⟩ := touchL_spec h.2 h.1
    exact rise_ext h1 h3 fun n => by rw [h2, h4]; exact ⟨Diff.sym, Diff.sym⟩
  · unfold touchL
    rw [if_neg h, if_neg (fun e => h ⟨e.2, e.1⟩)]
theorem touchL_self (a : AModel) : touchL a a = [] := by
  by_cases h : checkI a = 0
  · refine List.eq_nil_iff_forall_not_mem.2 fun n hn => ?_
    rcases ((touchL_spec h h).2 n).1 hn with ⟨x, h1, _, h2⟩ | ⟨x, h1, _, h2⟩ <;> exact h2 h1
  · unfold touchL
    rw [if_neg (fun e => h e.1)]
theorem touchL_tri (ha : checkI a = 0) (hb : checkI b = 0) (hc : checkI c = 0) {n : Int} (h : n ∈ touchL a c) (hn : n ∉ touchL a b) : n ∈ touchL b c := by
  rw [(touchL_spec ha hb).2] at hn
  rw [(touchL_spec ha hc).2] at h
  rw [(touchL_spec hb hc).2]
  rcases h with ⟨x, h1, rfl, h2⟩ | ⟨x, h1, rfl, h2⟩
  · by_cases hx : x ∈ b.nodes
    · exact .inl ⟨x, hx, rfl, h2⟩
    · exact absurd (.inl ⟨x, h1, rfl, hx⟩) hn
  · by_cases hx : x ∈ b.nodes
    · exact absurd (.inr ⟨x, hx, rfl, h2⟩) hn
    · exact .inr ⟨x, h1, rfl, hx⟩
theorem touchL_nil (ha : checkI a = 0) (hb : checkI b = 0) (hc : checkI c = 0) (h : touchL a b = []) : touchL a c = touchL b c := by
  have hm : ∀ x, x ∈ a.nodes ↔ x ∈ b.nodes := fun x => by
    have hn : ¬ Diff a.nodes b.nodes x.id := fun e => by
      have := ((touchL_spec ha hb).2 x.id).2 e
      rw [h] at this; cases this
    constructor
    · intro hx
      exact Classical.byContradiction fun e => hn (.inl ⟨x, hx, rfl, e⟩)
    · intro hx
      exact Classical.byContradiction fun e => hn (.inr ⟨x, hx, rfl, e⟩)
  obtain ⟨h1, h2⟩ := touchL_spec ha hc
  obtain ⟨h3, h4⟩ := touchL_spec hb hc
  refine rise_ext h1 h3 fun n => ?_
  rw [h2, h4]
  constructor
  · rintro (⟨x, k1, k2, k3⟩ | ⟨x, k1, k2, k3⟩)
    · exact .inl ⟨x, (hm x).1 k1, k2, k3⟩
    · exact .inr ⟨x, k1, k2, fun e => k3 ((hm x).2 e)⟩
  · rintro (⟨x, k1, k2, k3⟩ | ⟨x, k1, k2, k3⟩)
    · exact .inl ⟨x, (hm x).2 k1, k2, k3⟩
    · exact .inr ⟨x, k1, k2, fun e => k3 ((hm x).1 e)⟩
theorem touchL_len2 (a b : AModel) : (touchL a b).length ≤ a.nodes.length + b.nodes.length := by
  unfold touchL
  split
  · exact mergeT_len _ _ _ (Nat.le_refl _)
  · exact Nat.zero_le _
end
theorem three_models {w : World} {q : Nat} {F : Nat → Prop} {a b c : AModel} {va vb vc : Value} (hb : Blk w q 27 #[.int .i64 a.next, va, .int .i64 b.next, vb, .int .i64 c.next, vc]) (hva : IsRow 7 ENode w F va a.nodes) (hvb : IsRow 7 ENode w F vb b.nodes) (hvc : IsRow 7 ENode w F vc c.nodes) (hq : F q) : RowOf 2 EModel w F (some ⟨q, 0, none⟩) [a, b, c] := by
  refine ⟨fun _ => ⟨q, 0, rfl, hq⟩, fun i hi => ?_⟩
  rcases i with _ | _ | i
  · refine ⟨[.int .i64 a.next, va], rfl, ⟨va, rfl, hva⟩, fun b' off e j hj => ?_⟩
    cases e
    rw [hb.cell]
    rcases j with _ | _ | j <;> first | rfl | omega
  · refine ⟨[.int .i64 b.next, vb], rfl, ⟨vb, rfl, hvb⟩, fun b' off e j hj => ?_⟩
    cases e
    rw [hb.cell]
    rcases j with _ | _ | j <;> first | rfl | omega
  · have hi0 : i = 0 := by simp at hi; omega
    subst hi0
    refine ⟨[.int .i64 c.next, vc], rfl, ⟨vc, rfl, hvc⟩, fun b' off e j hj => ?_⟩
    cases e
    rw [hb.cell]
    rcases j with _ | _ | j <;> first | rfl | omega
set_option maxRecDepth 100000 in
set_option maxHeartbeats 1000000 in
/-- is a number in a list -/
theorem lin_any (A : Option Addr) (c : Nat) (l : List Int) (n : Int) (w : World) (F : Nat → Prop) (h : RowOf 1 EInt w F A l) (hl : l.length ≤ 9223372036854775807) :
    Calls Try.prog 34 #[.slice A l.length c, .int .i64 n] w fun e w' => e = .returned (.bool (decide (n ∈ l))) ∧ w = w' := by
  have HH := Lib.hid h
  clear h
  go_enter Try.func34, Try.ntmps34
  go_wp2_with fail
  go_loopg [5] l.length (fun g s5 wx => ∃ k : Nat, s5 = .int .i64 k ∧ g = l.length - k ∧ k ≤ l.length ∧ w = wx ∧ n ∉ l.take k)
  case atStart => exact ⟨0, rfl, rfl, Nat.zero_le _, rfl, by simp⟩
  case round =>
    obtain ⟨k, rfl, rfl, hk, rfl, hn⟩ := hrel
    have HN := Lib.hid hn
    clear hn
    have k0 : (0 : Int) ≤ k := by omega
    by_cases hlt : k < l.length
    · have hlt' : (k : Int) < l.length := by omega
      obtain ⟨b, off, rfl, _, d0⟩ := int_at HH.out hlt
      have HM := Lib.hid (List.getElem_mem hlt)
      have HTK := Lib.hid (List.take_succ_eq_append_getElem hlt)
      obtain ⟨x, hx⟩ : ∃ x, l[k] = x := ⟨_, rfl⟩
      rw [hx] at d0 HM HTK
      clear hx
      by_cases hxn : x = n
      · have E := Lib.hid (decide_eq_true (show n ∈ l by rw [← hxn]; exact HM.out))
        have hx' : (x == n) = true := beq_iff_eq.2 hxn
        go_wp2
        go_ret
        exact ⟨by rw [E.out]; rfl, rfl⟩
      · have hx' : (x == n) = false := beq_eq_false_iff_ne.2 hxn
        have HX := Lib.hid hxn
        clear hxn
        go_wp2
        go_roundg (l.length - (k + 1))
        case measure => omega
        case rel => exact ⟨k + 1, by go_num, rfl, by omega, rfl, by
          rw [HTK.out]
          intro h
          rcases List.mem_append.1 h with h | h
          · exact HN.out h
          · exact HX.out (List.mem_singleton.1 h).symm⟩
    · have hlt' : ¬ (k : Int) < l.length := by omega
      have E := Lib.hid (decide_eq_false (show n ∉ l by have := HN.out; rwa [List.take_of_length_le (by omega)] at this))
      go_wp2
      go_ret
      exact ⟨by rw [E.out]; rfl, rfl⟩
end Go.Proofs.Ytpjkifbicfcajaa
