import Derived.Test.YtgcbnndbeoekgaaRefPlain
import Derived.Deep.LoopGhost
import Derived.Deep.DeepCutAuto
set_option linter.unusedSimpArgs false
set_option linter.unusedVariables false
namespace Go.Proofs.Ytgcbnndbeoekgaa
open Go Go.RowKit

theorem holes_next {p : Nat → Bool} {i n : Nat} (h : ∀ e, i + 1 ≤ e → e < i + n → p e = true) (hp : p (i + n) = true) : ∀ e, i + 1 ≤ e → e < i + (n + 1) → p e = true := by
  intro e h1 h2
  by_cases h3 : e = i + n
  · rw [h3]; exact hp
  · exact h e h1 (by omega)
theorem own_some {w : World} {base : Nat} {e : TypeId} {size n : Nat} {v : Value} {xs : List Value} (h : w.ownsRow base e size v n xs) (hn : 0 < n) : ∃ g c, v = .slice (some ⟨g, 0, none⟩) n c ∧ n ≤ c := by
  rcases h.2 with ⟨_, h0⟩ | ⟨g, cap, cur, rfl, _, _, hc, _⟩
  · omega
  · exact ⟨g, cap, rfl, hc⟩
theorem own_pop {w : World} {B g c n : Nat} {v : Value} {l : List TN} {op : List Nat} {k : Nat} (h : OwnBoth 66 3 w B v l (.slice (some ⟨g, 0, none⟩) n c) ((op ++ [k]).map Int.ofNat)) : OwnBoth 66 3 w B v l (.slice (some ⟨g, 0, none⟩) op.length c) (op.map Int.ofNat) := by
  have h1 := h.open_
  have hn : n = op.length + 1 := by
    obtain ⟨A, c', e⟩ := own_shape h1
    injection e with _ e _
    rw [e]; simp
  subst hn
  have h2 := h1
  rw [List.map_append, List.map_cons, List.map_nil] at h2
  have h3 := own_less (xs := op.map Int.ofNat) (x := Int.ofNat k) (by simpa using h2)
  exact h.turn (w' := w) (by decide) ⟨rfl, rfl, rfl, Nat.le_refl _, fun _ _ _ => rfl⟩ (by simpa using h3) (.inl rfl)
theorem hole_pos {s : ByteArray} {i e j : Nat} (h : holeP s i e = true) (hj : e + 1 = j) : 0 < numB (cut s (i + 1) j) := by
  subst hj
  simp only [holeP, Bool.and_eq_true, decide_eq_true_eq] at h
  exact h.2
/-- what holds at the head of the reader's loop -/
def RefL (s : ByteArray) (w : World) (i : Nat) (l : List TN) (op : List Nat) (v ov : Value) (wr : World) : Prop :=
  Below w.heap.size w wr ∧ Blk wr w.heap.size 24 #[.slice none 0 0] ∧ OwnBoth 66 3 wr (w.heap.size + 1) v l ov (op.map Int.ofNat) ∧ RefI s i l op

theorem own_last {w : World} {B g c n : Nat} {v : Value} {l : List TN} {op : List Nat} {k : Nat} (h : OwnBoth 66 3 w B v l (.slice (some ⟨g, 0, none⟩) n c) ((op ++ [k]).map Int.ofNat)) : w.cell? ⟨g, op.length, none⟩ = some (.int .i64 k) := by
  have h1 := h.open_
  have hn : n = (op ++ [k]).length := by
    obtain ⟨A, c', e⟩ := own_shape h1
    injection e with _ e _
    rw [e]; simp
  rw [List.length_map, ← hn] at h1
  rw [h1.cellAt op.length (by rw [hn]; simp)]
  simp
/-- no term begins here -/
def badB (s : ByteArray) (i : Nat) : Bool := if h : i < s.size then !(((s[i].toNat : Int) == 63) || letterB s[i]) else true
theorem badB_lt {s : ByteArray} {i : Nat} (h : i < s.size) : badB s i = !(((s[i].toNat : Int) == 63) || letterB s[i]) := dif_pos h
theorem badB_ge {s : ByteArray} {i : Nat} (h : ¬ i < s.size) : badB s i = true := dif_neg h
theorem RefI.bad' {s : ByteArray} {i : Nat} {l : List TN} {op : List Nat} (h : RefI s i l op) (hb : badB s i = true) : Says s i 2 [] := by
  by_cases hlt : i < s.size
  · rw [badB_lt hlt] at hb
    cases h63 : ((s[i].toNat : Int) == 63) <;> cases hl : letterB s[i] <;> simp [h63, hl] at hb
    exact h.bad (.inr ⟨hlt, h63, hl⟩)
  · exact h.bad (.inl (byteAt_ge hlt))
theorem badB_no {s : ByteArray} {i : Nat} (hb : badB s i = false) : ∃ hlt : i < s.size, ((s[i].toNat : Int) == 63) = true ∨ (((s[i].toNat : Int) == 63) = false ∧ letterB s[i] = true) := by
  by_cases hlt : i < s.size
  · refine ⟨hlt, ?_⟩
    rw [badB_lt hlt] at hb
    cases h63 : ((s[i].toNat : Int) == 63) <;> cases hl : letterB s[i] <;> simp [h63, hl] at hb ⊢
  · rw [badB_ge hlt] at hb; cases hb

/-- a term has been read up to j, and is not yet among the nodes -/
def Got (s : ByteArray) (i : Nat) (l : List TN) (op : List Nat) (t : TN) (j : Nat) : Prop :=
  i < j ∧ j ≤ s.size ∧ t.args = [] ∧ ((0 < t.var ∧ RefA s j (l ++ [t]) op) ∨ (t.var = 0 ∧ t = ⟨0, s.extract i j, []⟩ ∧ (∃ hlt : i < s.size, ((s[i].toNat : Int) == 63) = false ∧ letterB s[i] = true) ∧ nameEnd s i = j))
/-- does an argument's list begin here? -/
def opnB (s : ByteArray) (t : TN) (j : Nat) : Bool := (t.var == 0) && (byteAt s j == some 40)

theorem names_all {p : Nat → Bool} {i n : Nat} (h0 : p i = true) (h : ∀ e, i + 1 ≤ e → e < i + n → p e = true) : ∀ e, i ≤ e → e < i + n → p e = true := by
  intro e h1 h2
  by_cases h3 : e = i
  · rw [h3]; exact h0
  · exact h e (by omega) h2
section
variable {s : ByteArray} {i j : Nat} {l : List TN} {op : List Nat} {t : TN}
theorem Got.name (hlt : i < s.size) (h63 : ((s[i].toNat : Int) == 63) = false) (hl : letterB s[i] = true) (he : nameEnd s i = j) (h1 : i < j) (h2 : j ≤ s.size) : Got s i l op ⟨0, s.extract i j, []⟩ j :=
  ⟨h1, h2, rfl, .inr ⟨rfl, rfl, ⟨hlt, h63, hl⟩, he⟩⟩
theorem Got.hole {m : Int} (h1 : i < j) (h2 : j ≤ s.size) (hm : 0 < m) (hA : RefA s j (l ++ [⟨m, ByteArray.empty, []⟩]) op) : Got s i l op ⟨m, ByteArray.empty, []⟩ j :=
  ⟨h1, h2, rfl, .inl ⟨hm, hA⟩⟩
theorem opnB_var (h : (t.var == 0) = false) : opnB s t j = false := by unfold opnB; rw [h]; rfl
theorem opnB_end (h : ¬ j < s.size) : opnB s t j = false := by unfold opnB; rw [byteAt_ge h]; simp
theorem opnB_at (hv : (t.var == 0) = true) (h : j < s.size) : opnB s t j = ((s[j].toNat : Int) == 40) := by
  unfold opnB; rw [byteAt_lt h, hv, Bool.true_and]
  by_cases e : s[j] = 40
  · rw [e]; rfl
  · rw [beq_eq_false_iff_ne.2 (by simpa using e)]
    symm; apply beq_eq_false_iff_ne.2
    intro e2; apply e; apply UInt8.toNat_inj.1; exact_mod_cast e2
theorem Got.after (h : Got s i l op t j) (hD : RefD s i l op) (ho : opnB s t j = false) : RefA s j (l ++ [t]) op := by
  obtain ⟨h1, h2, _, h | ⟨h3, rfl, ⟨hlt, h4, h5⟩, h6⟩⟩ := h
  · exact h.2
  · refine hD.name hlt h4 h5 h6 h2 ?_
    intro e; unfold opnB at ho; rw [e] at ho; simp at ho
theorem Got.open_ (h : Got s i l op t j) (hD : RefD s i l op) (ho : opnB s t j = true) : RefI s (j + 1) (l ++ [t]) (op ++ [l.length]) := by
  obtain ⟨h1, h2, _, h | ⟨h3, rfl, ⟨hlt, h4, h5⟩, h6⟩⟩ := h
  · rw [opnB_var (beq_eq_false_iff_ne.2 (by omega))] at ho; cases ho
  · refine hD.open_ hlt h4 h5 h6 ?_
    unfold opnB at ho; simpa using ho
end

set_option maxRecDepth 100000 in
set_option maxHeartbeats 4000000 in
theorem refParse_any (s : ByteArray) (hs : s.size ≤ 9223372036854775807) (w : World) : Calls Try.prog 8 #[.string s] w (ParsePost s w) := by
  go_enter Try.func8, Try.ntmps8
  go_wp2_with fail
  go_loopg [5, 6, 7] s.size (fun g s5 s6 s7 wr => ∃ (i : Nat) (l : List TN) (op : List Nat), s7 = .int .i64 i ∧ g = s.size - i ∧ RefL s w i l op s5 s6 wr)
  case atStart => exact ⟨0, [], [], rfl, rfl, (Below.refl _ _).alloc (Nat.le_refl _) _, Blk.new _ _ _, OwnBoth.start _ _, RefI.start s⟩
  case round =>
    obtain ⟨i, l, op, rfl, rfl, hL⟩ := hrel
    have HL := Lib.hid hL
    obtain ⟨_, hr, ho, hI⟩ := hL
    have hi := hI.le; have hlen := hI.len
    have HI := Lib.hid hI; clear hI
    obtain ⟨A5, c5, rfl⟩ := ho.nodes.shape
    obtain ⟨A6, c6, rfl⟩ := own_shape ho.open_
    have r0 := hr.cell 0; have rf := hr.frozen 0
    simp at r0
    have hro := hr.lt
    rw [List.length_map] at HL
    simp only [List.length_map]
    clear hr ho
    go_upto_region 4 with fail
    go_cut [29] (fun s29 wx => wr = wx ∧ s29 = .bool (badB s i))
    case first => as_aux_lemma =>
      by_cases hlt : i < s.size
      · cases h63 : ((s[i].toNat : Int) == 63)
        · cases hl : letterB s[i]
          · have hl' : ((i : Int) == s.size) = false := beq_eq_false_iff_ne.2 (by omega)
            have hl2 : (i : Int) < s.size := by omega
            obtain ⟨t, ht⟩ : ∃ t, s.extract i (i + 1) = t := ⟨_, rfl⟩
            have hc : Hid (rightB t.data.toList = false) := Lib.hid (by rw [← ht, cut_one hlt, right_one]; exact hl)
            have htz : t.size ≤ 9223372036854775807 := by rw [← ht, ByteArray.size_extract]; omega
            have h63' : ((s[i].toNat : Int) != 63) = true := by rw [bne_iff_ne]; exact beq_eq_false_iff_ne.1 h63
            have k1 : IntKind.i64.wrap ((i : Int) + 1) = (i : Int) + 1 := IntWalk.i64_in _ ⟨by omega, by omega⟩
            have k2 : (0 : Int) ≤ (i : Int) + 1 := by omega
            have k3 : ((i : Int) + 1).toNat = i + 1 := by omega
            have k4 : (i : Int) + 1 ≤ s.size := by omega
            have k5 : (i : Int) ≤ (i : Int) + 1 := by omega
            go_wp2_with fail
            refine (refRight_any t _ htz).mono ?_
            rintro _ _ ⟨rfl, rfl⟩
            rw [hc.out]
            clear k1 k2 k3 k4 k5 ht
            go_wp2
            go_meet
            case rel => exact ⟨rfl, by rw [badB_lt hlt, h63, hl]; rfl⟩
          · have hl' : ((i : Int) == s.size) = false := beq_eq_false_iff_ne.2 (by omega)
            have hl2 : (i : Int) < s.size := by omega
            obtain ⟨t, ht⟩ : ∃ t, s.extract i (i + 1) = t := ⟨_, rfl⟩
            have hc : Hid (rightB t.data.toList = true) := Lib.hid (by rw [← ht, cut_one hlt, right_one]; exact hl)
            have htz : t.size ≤ 9223372036854775807 := by rw [← ht, ByteArray.size_extract]; omega
            have h63' : ((s[i].toNat : Int) != 63) = true := by rw [bne_iff_ne]; exact beq_eq_false_iff_ne.1 h63
            have k1 : IntKind.i64.wrap ((i : Int) + 1) = (i : Int) + 1 := IntWalk.i64_in _ ⟨by omega, by omega⟩
            have k2 : (0 : Int) ≤ (i : Int) + 1 := by omega
            have k3 : ((i : Int) + 1).toNat = i + 1 := by omega
            have k4 : (i : Int) + 1 ≤ s.size := by omega
            have k5 : (i : Int) ≤ (i : Int) + 1 := by omega
            go_wp2_with fail
            refine (refRight_any t _ htz).mono ?_
            rintro _ _ ⟨rfl, rfl⟩
            rw [hc.out]
            clear k1 k2 k3 k4 k5 ht
            go_wp2
            go_meet
            case rel => exact ⟨rfl, by rw [badB_lt hlt, h63, hl]; rfl⟩
        · have hl' : ((i : Int) == s.size) = false := beq_eq_false_iff_ne.2 (by omega)
          have hl2 : (i : Int) < s.size := by omega
          have h63' : ((s[i].toNat : Int) != 63) = false := by rw [bne_eq_false_iff_eq]; exact beq_iff_eq.1 h63
          go_wp2
          go_meet
          case rel => exact ⟨rfl, by rw [badB_lt hlt, h63]; rfl⟩
      · have hl' : ((i : Int) == s.size) = true := beq_iff_eq.2 (by omega)
        go_wp2
        go_meet
        case rel => exact ⟨rfl, by rw [badB_ge hlt]⟩
    case rest => as_aux_lemma =>
      obtain ⟨rfl, rfl⟩ := hcut
      cases hbad : badB s i
      · obtain ⟨hlt, hcase⟩ := badB_no hbad
        by_cases h256 : l.length = 256
        · have hl256 : ((l.length : Int) == 256) = true := beq_iff_eq.2 (by omega)
          have hfin := Lib.hid (HI.out.long hlt hcase h256)
          go_wp2
          exact bodyPost_ret (v := .tuple #[.agg #[.slice none 0 0], .int .i64 (i : Nat), .int .i64 3]) (by simp [results, Try.results8, go_sem, r0]) rfl ⟨_, _, _, _, rfl, hfin.out, HL.out.1.setCell (p := ⟨w.heap.size, 0, none⟩) (Nat.le_refl _) _, IsRow.nil⟩
        · have hl256 : ((l.length : Int) == 256) = false := beq_eq_false_iff_ne.2 (by omega)
          obtain ⟨nop, hnop⟩ : ∃ nop, op.length = nop := ⟨_, rfl⟩
          rw [hnop] at HL ⊢
          have Hnop := Lib.hid hnop
          clear hnop
          go_upto_if 39 with fail
          generalize h39 : decide (0 < nop) = b39
          have H39 := Lib.hid h39
          clear h39
          go_cut [] (fun wx => ∃ l1 : List TN, l1.length = l.length ∧ Below w.heap.size w wx ∧ Blk wx w.heap.size 24 #[.slice none 0 0] ∧ OwnBoth 66 3 wx (w.heap.size + 1) (.slice A5 l.length c5) l1 (.slice A6 nop c6) (op.map Int.ofNat) ∧ RefD s i l1 op)
          case first => as_aux_lemma =>
            rcases List.eq_nil_or_concat op with rfl | ⟨r, k, e⟩
            · have h39 : b39 = false := by rw [← H39.out, ← Hnop.out]; rfl
              subst h39
              go_wp2
              go_meet
              case rel => exact ⟨l, rfl, HL.out.1, HL.out.2.1, HL.out.2.2.1, HI.out.first h256⟩
            · rw [List.concat_eq_append] at e
              subst e
              have hnr : nop = r.length + 1 := by rw [← Hnop.out]; simp
              have h39 : b39 = true := by rw [← H39.out]; exact decide_eq_true (by omega)
              subst h39
              clear H39
              have HD := Lib.hid (HI.out.more h256)
              have hk : k < l.length := HI.out.lt k (by simp)
              have ho := HL.out.2.2.1
              obtain ⟨g6, c6', e6, hc6⟩ := own_some ho.open_ (by simp)
              injection e6 with e6 e66 e7
              subst e6; subst e7
              clear e66
              have p1 : ((nop : Int) - 1).toNat = r.length := by omega
              have p2 : (0 : Int) ≤ (nop : Int) - 1 := by omega
              have p3 : (1 : Int) ≤ nop := by omega
              have p4 : (nop : Int) - 1 < nop := by omega
              have hcell := own_last ho
              obtain ⟨g5, cap5, av5, e5, hBg5, hg5, _, _, e2, _, _, q2, hrow, ⟨A8, c8, rfl⟩, hcap5, hcap6⟩ := ho.nodes.at_ hk
              injection e5 with e5 _ e8
              subst e5; subst e8
              obtain ⟨n8, hn8⟩ : ∃ n8, l[k].args.length = n8 := ⟨_, rfl⟩
              obtain ⟨x8, hx8⟩ : ∃ x8 : List Value, l[k].args.map (.int .i64) = x8 := ⟨_, rfl⟩
              have hn8' : n8 ≤ 256 := by have := HI.out.args k hk; omega
              have HMORE := Lib.hid (fun (w0 w1 : World) (h0 : Below wr.heap.size wr w0) (av' : Value) h1 hg hat => OwnBoth.moreArg (w' := w1) (av' := av') (x := l.length) (by decide) (ho.below (by decide) h0) hk ((h0.cell hg5).trans e2) h1 hg hat)
              have HROW := Lib.hid hrow
              rw [hn8, hx8] at HROW
              rw [hn8] at e2
              have m1 : (0 : Int) ≤ k := by omega
              have m2 : (k : Int) < l.length := by omega
              have hgv : ∀ b, (Value.slice A8 n8 c8).ownBlock = some b → w.heap.size + 1 ≤ b ∧ b < wr.heap.size := HROW.out.lt
              have hg5n := Lib.hid (ho.nodes.ne_arg (by decide) hrow)
              rw [hn8] at hg5n
              have HB := Lib.hid HL.out.1; have HR := Lib.hid HL.out.2.1
              have Hn8 := Lib.hid hn8; have Hx8 := Lib.hid hx8
              have n7 : (0 : Int) < nop := by omega
              have n9 : nop ≤ 256 := by have := HI.out.olen; simp at this; omega
              clear hnr hc6 ho hrow hn8 hx8 hcase
              go_wp2_with (at_builtin; go_loud (refine wpList_append_from _ rfl _ _ _ rfl (w.heap.size + 1) 3 Try.underlying64 int_info rfl (by omega) (.slice A8 n8 c8) n8 x8 rfl (own_below HROW.out ((Below.refl wr.heap.size wr).alloc (Nat.le_refl _) _)) (some ⟨wr.heap.size, 0, none⟩) 1 1 [.int .i64 l.length] rfl rfl (by simp) (by intro ad e; cases e; exact news_cells (cs := #[.int .i64 l.length]) (Blk.new _ _ _)) (by simp [Value.oneCell']) (by unfold maxLen; omega) (by omega) (by simp; omega) ?_))
              intro A9 c9 w9 own9 hg9 hat9
              have h09 : Below wr.heap.size wr (wr.alloc (.cells #[.int .i64 l.length] 3)) := (Below.refl wr.heap.size wr).alloc (Nat.le_refl _) _
              have e9 := (far_cell h09 hg9 hg5 hg5n.out).trans e2
              have f9 := (far_frozen h09 hg9 hg5 hg5n.out (i := k * 3 + 2)).trans q2
              have hrel := Lib.hid (HMORE.out _ w9 h09 _ (by rw [Hn8.out, Hx8.out]; exact own9) (by rw [Hn8.out]; exact hg9) (by rw [Hn8.out]; simpa using hat9))
              have hbl9 := Lib.hid ((((HB.out.alloc (Nat.le_of_lt hro) _).grown hg9 (by simp; omega) (fun b e => by have := (hgv b e).1; omega))).setCell (p := ⟨g5, k * 3 + 2, none⟩) (by show w.heap.size ≤ g5; omega) (.slice A9 (n8 + 1) c9))
              have hr9 := Lib.hid (((HR.out.alloc _).grown hg9 (fun e => by have := (hgv _ e.symm).1; omega)).far (p := ⟨g5, k * 3 + 2, none⟩) (by show w.heap.size ≠ g5; omega) (.slice A9 (n8 + 1) c9))
              clear hgv own9 hg9 hat9 HMORE h09
              go_wp2
              go_meet
              case rel => exact ⟨_, by simp, hbl9.out, hr9.out, hrel.out, HD.out⟩
          case rest => as_aux_lemma =>
            obtain ⟨w1, rfl⟩ : ∃ w1 : World, w1 = wc := ⟨_, rfl⟩
            obtain ⟨l1, hl1, hB1, hR1, hO1, hD1⟩ := hcut
            clear HL HI r0 rf
            rw [← hl1, ← Hnop.out] at hO1
            rw [← hl1, ← Hnop.out]
            have HB := Lib.hid hB1; have HR := Lib.hid hR1; have HO := Lib.hid hO1; have HD := Lib.hid hD1
            have hn1 := hD1.len
            have hRc := hR1.lt
            have hBs := hB1.size
            clear hB1 hR1 hO1 hD1 hl1 Hnop H39
            go_upto_if 63 with fail
            generalize h63 : ((s[i].toNat : Int) == 63) = b63
            rw [h63] at hcase
            have HU63 := Lib.hid h63; have Hcase := Lib.hid hcase
            clear h63 hcase
            go_cut [9] (fun s9 wx => ∃ (n : Nat) (t : TN), s9 = .int .i64 n ∧ Got s i l1 op t (i + n) ∧ Below w1.heap.size w1 wx ∧ Blk wx w1.heap.size 66 #[.int .i64 t.var, .string t.name, .slice none 0 0])
            case first => as_aux_lemma =>
              cases b63
              · have hlet : letterB s[i] = true := by
                  rcases Hcase.out with h | h
                  · cases h
                  · exact h.2
                have hl2 : (i : Int) < s.size := by omega
                have h63 := HU63.out
                clear Hcase HU63
                go_wp2_with fail
                go_loopg [9] (s.size - 1) (fun g s9 wx => (w1.alloc (.cells #[.int .i64 0, .string { data := #[] }, .slice none 0 0] 66)) = wx ∧ ∃ n : Nat, s9 = .int .i64 n ∧ g = s.size - n ∧ 1 ≤ n ∧ i + n ≤ s.size ∧ ∀ e, i + 1 ≤ e → e < i + n → nameP s i e = true)
                case atStart => exact ⟨rfl, 1, rfl, rfl, Nat.le_refl _, hlt, fun e h1 h2 => by omega⟩
                case round =>
                  obtain ⟨rfl, n, rfl, rfl, hn2, hn3, hP⟩ := hrel
                  have HP := Lib.hid hP; clear hP
                  have k0 : IntKind.i64.wrap ((i : Int) + n) = (i : Int) + n := IntWalk.i64_in _ ⟨by omega, by omega⟩
                  by_cases hjt : i + n < s.size
                  · have hj2 : (i : Int) + n < s.size := by omega
                    obtain ⟨t', ht⟩ : ∃ t', s.extract i (i + n + 1) = t' := ⟨_, rfl⟩
                    have hcut : Hid (nameP s i (i + n) = rightB t'.data.toList) := Lib.hid (by simp [nameP, cut, hjt, ht])
                    have htz' : t'.size ≤ 9223372036854775807 := by rw [← ht, ByteArray.size_extract]; omega
                    have k2 : IntKind.i64.wrap ((i : Int) + n + 1) = (i : Int) + n + 1 := IntWalk.i64_in _ ⟨by omega, by omega⟩
                    have k3 : (0 : Int) ≤ (i : Int) + n + 1 := by omega
                    have k4 : (i : Int) ≤ (i : Int) + n + 1 := by omega
                    have k5 : (i : Int) + n + 1 ≤ s.size := by omega
                    have k7 : ((i : Int) + n + 1).toNat = i + n + 1 := by omega
                    go_wp2_with fail
                    refine (refRight_any t' _ htz').mono ?_
                    rintro _ _ ⟨rfl, rfl⟩
                    clear k2 k3 k4 k5 k7 ht
                    cases hr : rightB t'.data.toList
                    · have hp := Lib.hid (hcut.out.trans hr)
                      clear hr
                      have he := Lib.hid (name_end (by omega) (by omega) (names_all (nameP_first hlt hlet) HP.out) hp.out)
                      have q4 : (i : Int) ≤ (i : Int) + n := by omega
                      have q5 : (i : Int) + n ≤ s.size := by omega
                      have q7 : ((i : Int) + n).toNat = i + n := by omega
                      have q8 : (0 : Int) ≤ i := by omega
                      go_wp2
                      go_meet
                      case rel => exact ⟨n, ⟨0, s.extract i (i + n), []⟩, rfl, Got.name hlt h63 hlet he.out (by omega) (by omega), (Below.refl _ _).alloc (Nat.le_refl _) _, Blk.new _ _ _⟩
                    · have hp := Lib.hid (hcut.out.trans hr)
                      clear hr
                      go_wp2
                      go_roundg (s.size - (n + 1))
                      case measure => omega
                      case rel => exact ⟨rfl, n + 1, by go_num, rfl, by omega, by omega, holes_next HP.out hp.out⟩
                  · have hj2 : decide ((i : Int) + n < s.size) = false := decide_eq_false (by omega)
                    have hp := Lib.hid (show nameP s i (i + n) = false by simp [nameP, hjt])
                    have he := Lib.hid (name_end (by omega) (by omega) (names_all (nameP_first hlt hlet) HP.out) hp.out)
                    have q4 : (i : Int) ≤ (i : Int) + n := by omega
                    have q5 : (i : Int) + n ≤ s.size := by omega
                    have q7 : ((i : Int) + n).toNat = i + n := by omega
                    have q8 : (0 : Int) ≤ i := by omega
                    go_wp2
                    go_meet
                    case rel => exact ⟨n, ⟨0, s.extract i (i + n), []⟩, rfl, Got.name hlt h63 hlet he.out (by omega) (by omega), (Below.refl _ _).alloc (Nat.le_refl _) _, Blk.new _ _ _⟩
              · have hl2 : (i : Int) < s.size := by omega
                have h63 := HU63.out
                clear Hcase HU63
                go_wp2_with fail
                go_loopg [9] (s.size - 1) (fun g s9 wx => (w1.alloc (.cells #[.int .i64 0, .string { data := #[] }, .slice none 0 0] 66)) = wx ∧ ∃ n : Nat, s9 = .int .i64 n ∧ g = s.size - n ∧ 1 ≤ n ∧ i + n ≤ s.size ∧ ∀ e, i + 1 ≤ e → e < i + n → holeP s i e = true)
                case atStart => exact ⟨rfl, 1, rfl, rfl, Nat.le_refl _, hlt, fun e h1 h2 => by omega⟩
                case round =>
                  obtain ⟨rfl, n, rfl, rfl, hn2, hn3, hP⟩ := hrel
                  have HP := Lib.hid hP; clear hP
                  have k0 : IntKind.i64.wrap ((i : Int) + n) = (i : Int) + n := IntWalk.i64_in _ ⟨by omega, by omega⟩
                  by_cases hjt : i + n < s.size
                  · have hj2 : (i : Int) + n < s.size := by omega
                    obtain ⟨t', ht⟩ : ∃ t', s.extract (i + 1) (i + n + 1) = t' := ⟨_, rfl⟩
                    have hcut : Hid (holeP s i (i + n) = decide (0 < numB t'.data.toList)) := Lib.hid (by simp [holeP, cut, hjt, ht])
                    have htz' : t'.size ≤ 9223372036854775807 := by rw [← ht, ByteArray.size_extract]; omega
                    have k1 : IntKind.i64.wrap ((i : Int) + 1) = (i : Int) + 1 := IntWalk.i64_in _ ⟨by omega, by omega⟩
                    have k2 : IntKind.i64.wrap ((i : Int) + n + 1) = (i : Int) + n + 1 := IntWalk.i64_in _ ⟨by omega, by omega⟩
                    have k3 : (0 : Int) ≤ (i : Int) + 1 := by omega
                    have k4 : (i : Int) + 1 ≤ (i : Int) + n + 1 := by omega
                    have k5 : (i : Int) + n + 1 ≤ s.size := by omega
                    have k6 : ((i : Int) + 1).toNat = i + 1 := by omega
                    have k7 : ((i : Int) + n + 1).toNat = i + n + 1 := by omega
                    go_wp2_with fail
                    refine (number_any t' _ htz').mono ?_
                    rintro _ _ ⟨rfl, rfl⟩
                    clear k1 k2 k3 k4 k5 k6 k7 ht
                    by_cases hq : 0 < numB t'.data.toList
                    · have hp := Lib.hid (show holeP s i (i + n) = true by rw [hcut.out]; exact decide_eq_true hq)
                      go_wp2
                      go_roundg (s.size - (n + 1))
                      case measure => omega
                      case rel => exact ⟨rfl, n + 1, by go_num, rfl, by omega, by omega, holes_next HP.out hp.out⟩
                    · have hp := Lib.hid (show holeP s i (i + n) = false by rw [hcut.out]; exact decide_eq_false hq)
                      have hq' : decide (0 < numB t'.data.toList) = false := decide_eq_false hq
                      have he := Lib.hid (ends_at (p := holeP s i) s.size (i + 1) (i + n) (by omega) (by omega) HP.out hp.out)
                      by_cases h1 : n = 1
                      · subst h1
                        have h1' : ((1 : Nat) : Int) = 1 := rfl
                        have hfin := Lib.hid (HD.out.nohole hlt h63 he.out)
                        have rF := HR.out.frozen 0; have r0 := HR.out.cell 0
                        have rR := ((HR.out.set_ 0 (.slice none 0 0)).alloc (.cells #[.int .i64 0, .string { data := #[] }, .slice none 0 0] 66)).cell 0
                        simp at r0 rR
                        go_wp2
                        exact bodyPost_ret (v := .tuple #[.agg #[.slice none 0 0], .int .i64 (i + 1 : Nat), .int .i64 2]) (by simp [results, Try.results8, go_sem, rR]) rfl ⟨_, _, _, _, rfl, hfin.out, (HB.out.setCell (p := ⟨w.heap.size, 0, none⟩) (Nat.le_refl _) _).alloc (by simp; omega) _, IsRow.nil⟩
                      · have h1' : ((n : Int) == 1) = false := beq_eq_false_iff_ne.2 (by omega)
                        have hpos := hole_pos (HP.out (i + n - 1) (by omega) (by omega)) (show i + n - 1 + 1 = i + n by omega)
                        have HA := HD.out.hole hlt h63 he.out (by omega) hn3
                        obtain ⟨t2, ht2⟩ : ∃ t2, s.extract (i + 1) (i + n) = t2 := ⟨_, rfl⟩
                        obtain ⟨m, hm⟩ : ∃ m, numB t2.data.toList = m := ⟨_, rfl⟩
                        rw [cut, ht2, hm] at hpos HA
                        have HA := Lib.hid HA
                        have hm0 : (m == 0) = false := beq_eq_false_iff_ne.2 (by omega)
                        have htz2 : t2.size ≤ 9223372036854775807 := by rw [← ht2, ByteArray.size_extract]; omega
                        have q1 : IntKind.i64.wrap ((i : Int) + 1) = (i : Int) + 1 := IntWalk.i64_in _ ⟨by omega, by omega⟩
                        have q3 : (0 : Int) ≤ (i : Int) + 1 := by omega
                        have q4 : (i : Int) + 1 ≤ (i : Int) + n := by omega
                        have q5 : (i : Int) + n ≤ s.size := by omega
                        have q6 : ((i : Int) + 1).toNat = i + 1 := by omega
                        have q7 : ((i : Int) + n).toNat = i + n := by omega
                        go_wp2_with fail
                        refine (number_any t2 _ htz2).mono ?_
                        rintro _ _ ⟨rfl, rfl⟩
                        rw [hm]
                        clear q1 q3 q4 q5 q6 q7 ht2 hm
                        go_wp2
                        go_meet
                        case rel => exact ⟨n, ⟨m, ByteArray.empty, []⟩, rfl, Got.hole (by omega) hn3 hpos HA.out, (Below.refl _ _).alloc (Nat.le_refl _) _, Blk.new _ _ _⟩
                  · have hj2 : decide ((i : Int) + n < s.size) = false := decide_eq_false (by omega)
                    have hp := Lib.hid (holeP_ge (i := i) hjt)
                    have he := Lib.hid (ends_at (p := holeP s i) s.size (i + 1) (i + n) (by omega) (by omega) HP.out hp.out)
                    by_cases h1 : n = 1
                    · subst h1
                      have h1' : ((1 : Nat) : Int) = 1 := rfl
                      have hfin := Lib.hid (HD.out.nohole hlt h63 he.out)
                      have rF := HR.out.frozen 0; have r0 := HR.out.cell 0
                      have rR := ((HR.out.set_ 0 (.slice none 0 0)).alloc (.cells #[.int .i64 0, .string { data := #[] }, .slice none 0 0] 66)).cell 0
                      simp at r0 rR
                      go_wp2
                      exact bodyPost_ret (v := .tuple #[.agg #[.slice none 0 0], .int .i64 (i + 1 : Nat), .int .i64 2]) (by simp [results, Try.results8, go_sem, rR]) rfl ⟨_, _, _, _, rfl, hfin.out, (HB.out.setCell (p := ⟨w.heap.size, 0, none⟩) (Nat.le_refl _) _).alloc (by simp; omega) _, IsRow.nil⟩
                    · have h1' : ((n : Int) == 1) = false := beq_eq_false_iff_ne.2 (by omega)
                      have hpos := hole_pos (HP.out (i + n - 1) (by omega) (by omega)) (show i + n - 1 + 1 = i + n by omega)
                      have HA := HD.out.hole hlt h63 he.out (by omega) hn3
                      obtain ⟨t2, ht2⟩ : ∃ t2, s.extract (i + 1) (i + n) = t2 := ⟨_, rfl⟩
                      obtain ⟨m, hm⟩ : ∃ m, numB t2.data.toList = m := ⟨_, rfl⟩
                      rw [cut, ht2, hm] at hpos HA
                      have HA := Lib.hid HA
                      have hm0 : (m == 0) = false := beq_eq_false_iff_ne.2 (by omega)
                      have htz2 : t2.size ≤ 9223372036854775807 := by rw [← ht2, ByteArray.size_extract]; omega
                      have q1 : IntKind.i64.wrap ((i : Int) + 1) = (i : Int) + 1 := IntWalk.i64_in _ ⟨by omega, by omega⟩
                      have q3 : (0 : Int) ≤ (i : Int) + 1 := by omega
                      have q4 : (i : Int) + 1 ≤ (i : Int) + n := by omega
                      have q5 : (i : Int) + n ≤ s.size := by omega
                      have q6 : ((i : Int) + 1).toNat = i + 1 := by omega
                      have q7 : ((i : Int) + n).toNat = i + n := by omega
                      go_wp2_with fail
                      refine (number_any t2 _ htz2).mono ?_
                      rintro _ _ ⟨rfl, rfl⟩
                      rw [hm]
                      clear q1 q3 q4 q5 q6 q7 ht2 hm
                      go_wp2
                      go_meet
                      case rel => exact ⟨n, ⟨m, ByteArray.empty, []⟩, rfl, Got.hole (by omega) hn3 hpos HA.out, (Below.refl _ _).alloc (Nat.le_refl _) _, Blk.new _ _ _⟩
            case rest => as_aux_lemma =>
              obtain ⟨w2, rfl⟩ : ∃ w2 : World, w2 = wc := ⟨_, rfl⟩
              obtain ⟨n, t, rfl, hG, hbx, hTx⟩ := hcut
              obtain ⟨j, hj⟩ : ∃ j, i + n = j := ⟨_, rfl⟩
              rw [hj] at hG
              have hj' : IntKind.i64.wrap ((i : Int) + n) = j := by rw [IntWalk.i64_in _ ⟨by omega, by have := hG.2.1; omega⟩]; omega
              have hij := hG.1
              have hjs := hG.2.1
              have ht := hG.2.2.1
              have HG := Lib.hid hG; clear hG hj
              have HO2 := Lib.hid (HO.out.below (by decide) hbx)
              have HGV := Lib.hid (show ∀ b, (Value.slice A5 l1.length c5).ownBlock = some b → w.heap.size + 1 ≤ b ∧ b < w1.heap.size from HO.out.nodes.ownLt)
              have HR2 := Lib.hid (HR.out.below hbx hRc)
              have HB2 := Lib.hid (HB.out.trans (hbx.mono hBs))
              have hT0 := hTx.cell 0; have hT1 := hTx.cell 1; have hT2 := hTx.cell 2
              simp at hT0 hT1 hT2
              have hRc2 := HR2.out.lt
              have hTlt := hTx.lt
              have HT := Lib.hid hTx
              have Ht := Lib.hid ht
              clear hbx HO HR HB hTx ht
              go_wp2_with (at_builtin; go_loud (refine wpList_pushBoth _ (by decide) rfl _ _ 22 rfl (w.heap.size + 1) Try.underlying22 tn_info rfl (.slice A5 l1.length c5) l1 (.slice A6 op.length c6) (op.map Int.ofNat) rfl (HO2.out.below (by decide) ((Below.refl _ _).alloc (Nat.le_refl _) _)) t Ht.out ⟨w2.heap.size, 0, none⟩ 1 rfl (news_cells (cs := #[.int .i64 t.var, .string t.name, .slice none 0 0]) (Blk.new _ _ _)) (by unfold maxLen; omega) (by omega) (by simp; omega) ?_))
              intro A7 c7 w7 own7 hg7
              have hgv := HGV.out
              have hT7 := (HT.out.alloc (.cells #[.int .i64 t.var, .string t.name, .slice none 0 0] 66)).grown hg7 (fun e => by have := (hgv _ e.symm).2; omega)
              have hR7 := (HR2.out.alloc (.cells #[.int .i64 t.var, .string t.name, .slice none 0 0] 66)).grown hg7 (fun e => by have := (hgv _ e.symm).1; omega)
              have hB7 := Lib.hid ((HB2.out.alloc (Nat.le_of_lt hRc2) _).grown hg7 (by simp; omega) (fun b e => by have := (hgv b e).1; omega))
              have e7 := hT7.cell 0; have r7 := hR7.cell 0; have rf7 := hR7.frozen 0
              simp at e7 r7
              have HR7 := Lib.hid hR7; have HO7 := Lib.hid own7
              have hRlt := hR7.lt
              obtain ⟨l7, hl7⟩ : ∃ l7, l1 ++ [t] = l7 := ⟨_, rfl⟩
              have hlen7 : l1.length + 1 = l7.length := by rw [← hl7]; simp
              rw [hl7] at HO7
              have Hl7 := Lib.hid hl7; have Hlen7 := Lib.hid hlen7
              clear hgv hR7 hT7 own7 hg7 HT hT0 hT1 hT2 HO2 HR2 HB2 hl7 hlen7 HU63
              go_upto_region 24 with fail
              go_cut [144] (fun sb wx => w7 = wx ∧ sb = .bool (opnB s t j))
              case first => as_aux_lemma =>
                cases hv : (t.var == 0)
                · go_wp2
                  go_meet
                  case rel => exact ⟨rfl, by rw [opnB_var hv]⟩
                · by_cases hjs' : j < s.size
                  · have hj2 : (j : Int) < s.size := by omega
                    go_wp2
                    go_meet
                    case rel => exact ⟨rfl, by rw [opnB_at hv hjs']⟩
                  · have hj2 : decide ((j : Int) < s.size) = false := decide_eq_false (by omega)
                    go_wp2
                    go_meet
                    case rel => exact ⟨rfl, by rw [opnB_end hjs']⟩
              case rest => as_aux_lemma =>
                obtain ⟨rfl, rfl⟩ := hcut
                clear hj' e7
                cases hop : opnB s t j
                · have HA := HG.out.after HD.out hop
                  rw [Hl7.out] at HA
                  have HA := Lib.hid HA
                  have hii := hij
                  clear hop
                  go_wp2_with fail
                  go_loopg [6, 7] op.length (fun g s6 s7 wx => w7 = wx ∧ ∃ (i' : Nat) (op' : List Nat), s7 = .int .i64 i' ∧ g = op'.length ∧ i < i' ∧ OwnBoth 66 3 w7 (w.heap.size + 1) (.slice A7 (l1.length + 1) c7) l7 s6 (op'.map Int.ofNat) ∧ RefA s i' l7 op')
                  case atStart => exact ⟨rfl, j, _, by go_num, rfl, hii, HO7.out, HA.out⟩
                  case round =>
                    clear HA HO7 hii
                    obtain ⟨rfl, i', op', rfl, rfl, hii, ho', hA'⟩ := hrel
                    have hile := hA'.le
                    have HO8 := Lib.hid ho'; have HA8 := Lib.hid hA'
                    rcases List.eq_nil_or_concat op' with rfl | ⟨r', k', e⟩
                    · obtain ⟨A8, c8, rfl⟩ := own_shape ho'.open_
                      simp only [List.map_nil, List.length_nil] at HO8 ⊢
                      clear ho' hA'
                      by_cases his : i' = s.size
                      · have hfin := Lib.hid (HA8.out.done his)
                        have his' : ((i' : Int) == s.size) = true := beq_iff_eq.2 (by omega)
                        have hrow := Lib.hid (HO8.out.nodes.isRow (F := fun b => w.heap.size + 1 ≤ b ∧ b < w7.heap.size) (fun b h1 h2 => ⟨h1, h2⟩))
                        go_wp2
                        exact bodyPost_ret (v := .tuple #[.agg #[.slice A7 (l1.length + 1) c7], .int .i64 0, .int .i64 0]) (by simp [results, Try.results8, go_sem, r7, Hlen7.out]) rfl ⟨_, _, _, _, rfl, hfin.out, hB7.out.setCell (p := ⟨w.heap.size, 0, none⟩) (Nat.le_refl _) _, hrow.out.keep (ETN.stays) (keep_far (fun b hb => by have := hb.1; show b ≠ w.heap.size; omega) _) (fun b hb => by simpa using hb.2)⟩
                      · have hfin := Lib.hid (HA8.out.rest his)
                        have his' : ((i' : Int) == s.size) = false := beq_eq_false_iff_ne.2 (by omega)
                        go_wp2
                        exact bodyPost_ret (v := .tuple #[.agg #[.slice none 0 0], .int .i64 i', .int .i64 2]) (by simp [results, Try.results8, go_sem, r7]) rfl ⟨_, _, _, _, rfl, hfin.out, hB7.out.setCell (p := ⟨w.heap.size, 0, none⟩) (Nat.le_refl _) _, IsRow.nil⟩
                    · rw [List.concat_eq_append] at e
                      subst e
                      obtain ⟨g8, c8, rfl, hc8⟩ := own_some ho'.open_ (by simp)
                      have hg8 : (0 : Int) < ((r'.length : Int) + 1) := by omega
                      have hr8 : r'.length < 256 := by have h1 := HA8.out.olen; have h2 := HA8.out.len; simp at h1; omega
                      have hc9 : (r'.length : Int) ≤ c8 := by simp at hc8; omega
                      simp only [List.length_map, List.length_append, List.length_cons, List.length_nil, Nat.zero_add] at HO8 ⊢
                      clear ho' hA'
                      by_cases his : i' < s.size
                      · have his' : (i' : Int) < s.size := by omega
                        have his2 : ((i' : Int) == s.size) = false := beq_eq_false_iff_ne.2 (by omega)
                        cases h41 : ((s[i'].toNat : Int) == 41)
                        · have n41 := byte_none (s := s) (i := i') (n := 41) (by omega) (fun _ => beq_eq_false_iff_ne.1 h41)
                          cases h44 : ((s[i'].toNat : Int) == 44)
                          · have hfin := Lib.hid (HA8.out.bad n41 (byte_none (n := 44) (by omega) (fun _ => beq_eq_false_iff_ne.1 h44)))
                            have h44' : ((s[i'].toNat : Int) != 44) = true := by rw [bne_iff_ne]; exact beq_eq_false_iff_ne.1 h44
                            go_wp2
                            exact bodyPost_ret (v := .tuple #[.agg #[.slice none 0 0], .int .i64 i', .int .i64 2]) (by simp [results, Try.results8, go_sem, r7]) rfl ⟨_, _, _, _, rfl, hfin.out, hB7.out.setCell (p := ⟨w.heap.size, 0, none⟩) (Nat.le_refl _) _, IsRow.nil⟩
                          · have hfin := Lib.hid (HA8.out.next n41 (byte_some (n := 44) (by omega) ⟨his, beq_iff_eq.1 h44⟩))
                            have h44' : ((s[i'].toNat : Int) != 44) = false := by rw [bne_eq_false_iff_eq]; exact beq_iff_eq.1 h44
                            go_wp2
                            go_roundg (s.size - (i' + 1))
                            case measure => omega
                            case rel => exact ⟨i' + 1, l7, r' ++ [k'], by go_num, rfl, hB7.out, HR7.out, by simpa [Hlen7.out] using HO8.out, hfin.out⟩
                        · have hfin := Lib.hid (HA8.out.close (byte_some (n := 41) (by omega) ⟨his, beq_iff_eq.1 h41⟩))
                          have hpop := Lib.hid (own_pop HO8.out)
                          go_wp2
                          go_roundg r'.length
                          case measure => simp
                          case rel => exact ⟨rfl, i' + 1, r', by go_num, rfl, by omega, by simpa using hpop.out, hfin.out⟩
                      · have his' : decide ((i' : Int) < s.size) = false := decide_eq_false (by omega)
                        have his2 : ((i' : Int) == s.size) = true := beq_iff_eq.2 (by omega)
                        have hfin := Lib.hid (HA8.out.bad (by rw [byteAt_ge his]; exact fun e => by cases e) (by rw [byteAt_ge his]; exact fun e => by cases e))
                        go_wp2
                        exact bodyPost_ret (v := .tuple #[.agg #[.slice none 0 0], .int .i64 i', .int .i64 2]) (by simp [results, Try.results8, go_sem, r7]) rfl ⟨_, _, _, _, rfl, hfin.out, hB7.out.setCell (p := ⟨w.heap.size, 0, none⟩) (Nat.le_refl _) _, IsRow.nil⟩
                · have HI' := HG.out.open_ HD.out hop
                  rw [Hl7.out] at HI'
                  have HI' := Lib.hid HI'
                  have HP7 := Lib.hid HO7.out.open_
                  rw [List.length_map] at HP7
                  have hol := HD.out.olen
                  have hj1 := HI'.out.le
                  obtain ⟨x7, hx7⟩ : ∃ x7 : List Value, (op.map Int.ofNat).map (.int .i64) = x7 := ⟨_, rfl⟩
                  rw [hx7] at HP7
                  have Hx7 := Lib.hid hx7
                  have hgo : ∀ b, (Value.slice A6 op.length c6).ownBlock = some b → w.heap.size + 1 ≤ b ∧ b < w7.heap.size := HP7.out.lt
                  clear hop hx7
                  go_wp2_with (at_builtin; go_loud (refine wpList_append_from _ rfl _ _ _ rfl (w.heap.size + 1) 3 Try.underlying64 int_info rfl (by omega) (.slice A6 op.length c6) op.length x7 rfl (own_below HP7.out ((Below.refl w7.heap.size w7).alloc (Nat.le_refl _) _)) (some ⟨w7.heap.size, 0, none⟩) 1 1 [.int .i64 l1.length] rfl rfl (by simp) (by intro ad e; cases e; exact news_cells (cs := #[.int .i64 l1.length]) (Blk.new _ _ _)) (by simp [Value.oneCell']) (by unfold maxLen; omega) (by omega) (by simp; omega) ?_))
                  intro A9 c9 w9 own9 hg9 hat9
                  have hO9 := Lib.hid (OwnBoth.turn (op' := (op ++ [l1.length]).map Int.ofNat) (by decide) (HO7.out.below (by decide) ((Below.refl _ _).alloc (Nat.le_refl _) _)) hg9 (by simpa [← Hx7.out] using own9) (by simpa using hat9))
                  have hR9 := Lib.hid ((HR7.out.alloc _).grown hg9 (fun e => by have := (hgo _ e.symm).1; omega))
                  have hB9 := Lib.hid ((hB7.out.alloc (Nat.le_of_lt hRlt) _).grown hg9 (by simp; omega) (fun b e => by have := (hgo b e).1; omega))
                  clear hgo own9 hg9 hat9
                  go_wp2
                  go_roundg (s.size - (j + 1))
                  case measure => omega
                  case rel => exact ⟨j + 1, l7, op ++ [l1.length], by go_num, rfl, hB9.out, hR9.out, by simpa using hO9.out, HI'.out⟩
      · have hfin := Lib.hid (HI.out.bad' hbad)
        go_wp2
        exact bodyPost_ret (v := .tuple #[.agg #[.slice none 0 0], .int .i64 (i : Nat), .int .i64 2]) (by simp [results, Try.results8, go_sem, r0]) rfl ⟨_, _, _, _, rfl, hfin.out, HL.out.1.setCell (p := ⟨w.heap.size, 0, none⟩) (Nat.le_refl _) _, IsRow.nil⟩
        
end Go.Proofs.Ytgcbnndbeoekgaa
