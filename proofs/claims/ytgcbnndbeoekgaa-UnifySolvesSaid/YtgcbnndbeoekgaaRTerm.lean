/- the document's web.term and web.least: a class's term, its least hole -/
import Derived.Test.YtgcbnndbeoekgaaRWebM
import Derived.BigQuiet
set_option linter.unusedSimpArgs false
set_option linter.unusedVariables false
namespace Go.Proofs.Ytgcbnndbeoekgaa
open Go Go.RowKit Go.Maps

/-- a class's term is answered, or that there is none -/
def TermIs (w : World) (ns : List TN) (cl : List Nat) (c : Nat) (e : Ending) : Prop :=
  (∃ i, ∃ hi : i < ns.length, tmR ns cl c = some i ∧ ∃ S k, e = .returned (.tuple #[.agg #[.int .i64 0, .string ns[i].name, .slice S ns[i].args.length k], .bool true]) ∧ ns[i].args.length ≤ k ∧ k ≤ maxLen ∧ ∀ j (hj : j < ns[i].args.length), ∃ ga, S = some ⟨ga, 0, none⟩ ∧ ga < w.heap.size ∧ w.cell? ⟨ga, j, none⟩ = some (.int .i64 ns[i].args[j])) ∨
  (tmR ns cl c = none ∧ e = .returned (.tuple #[.agg #[.int .i64 0, .string ⟨#[]⟩, .slice none 0 0], .bool false]))

set_option maxRecDepth 100000 in
set_option maxHeartbeats 8000000 in
theorem rterm_at (w0 w : World) (B p g gc n cn cc : Nat) (ns : List TN) (cl : List Nat) (h0 : RM w0 B p (.slice (some ⟨g, 0, none⟩) n cn) (.slice (some ⟨gc, 0, none⟩) n cc) ns cl) (hb0 : Below w0.heap.size w0 w) (hl : n ≤ 1048576) (hn1 : ns.length = n) (hn2 : cl.length = n) (c : Nat) :
    Calls Try.prog 53 #[.pointer (some ⟨p, 0, none⟩), .int .i64 c] w fun e w' => TermIs w0 ns cl c e ∧ Below w.heap.size w w' := by
  have h := h0.below hb0
  have HM := Lib.hid h; have HM0 := Lib.hid h0; have HB0 := Lib.hid hb0
  have HN1 := Lib.hid hn1; have HN2 := Lib.hid hn2
  clear h h0 hb0 hn1 hn2
  go_enter Try.func53, Try.ntmps53
  go_upto_region 2 with fail
  have HBI := (Below.refl w.heap.size w).alloc (Nat.le_refl _) (.cells #[.int .i64 0, .string ⟨#[]⟩, .slice none 0 0] 66)
  have HX0 := Blk.new w 66 #[.int .i64 0, .string ⟨#[]⟩, .slice none 0 0]
  go_loopg [6] n (fun gh s6 wx => ∃ (j : Nat), s6 = .int .i64 j ∧ gh = n - j ∧ j ≤ n ∧ Below w.heap.size w wx ∧ Blk wx w.heap.size 66 #[.int .i64 0, .string ⟨#[]⟩, .slice none 0 0] ∧ ∀ i, i < j → isTm ns cl c i = false)
  case atStart => exact ⟨0, rfl, rfl, Nat.zero_le _, HBI, HX0, fun i h => absurd h (Nat.not_lt_zero _)⟩
  case round =>
    clear HBI HX0
    obtain ⟨j, rfl, rfl, hj, hb, hx, hno⟩ := hrel
    have HB := Lib.hid hb; have HX := Lib.hid hx; have HNO := Lib.hid hno
    have HM2 : Hid (RM wr B p (.slice (some ⟨g, 0, none⟩) n cn) (.slice (some ⟨gc, 0, none⟩) n cc) ns cl) := Lib.hid (HM.out.below hb)
    have p0 := HM2.out.blk.cell 0; have p1 := HM2.out.blk.cell 1
    simp at p0 p1
    have j0 : (0 : Int) ≤ j := by omega
    clear hb hx hno
    by_cases hlt : j < n
    · have hlt' : (j : Int) < n := by omega
      have HJN : Hid (j < ns.length) := Lib.hid (by rw [HN1.out]; exact hlt)
      have HJC : Hid (j < cl.length) := Lib.hid (by rw [HN2.out]; exact hlt)
      obtain ⟨hgl, S, k, d0, d1, d2, hk1, hk2, hargs⟩ := HM2.out.nodeG HJN.out
      obtain ⟨e0, f0, _⟩ := HM2.out.clsG HJC.out
      have HIT := Lib.hid (isTm_iff (cl := cl) (c := c) HJN.out)
      rw [rOf_at HJC.out] at HIT
      have HAR : Hid (∀ i (hi : i < (ns[j]'HJN.out).args.length), ∃ ga, S = some ⟨ga, 0, none⟩ ∧ ga < w0.heap.size ∧ w0.cell? ⟨ga, i, none⟩ = some (.int .i64 (ns[j]'HJN.out).args[i])) := Lib.hid (by
        intro i hi
        obtain ⟨hgl', S', k', _, _, d2', _, _, h3⟩ := HM0.out.nodeG HJN.out
        have hb2 : Below w0.heap.size w0 wr := HB0.out.trans (HB.out.mono HB0.out.size)
        have d2'' := (hb2.cell (p := ⟨g, j * 3 + 2, none⟩) hgl').trans d2'
        rw [d2] at d2''
        injection d2'' with d2''
        injection d2'' with e1 _ _
        subst e1
        exact h3 i hi)
      have HKK : Hid ((ns[j]'HJN.out).args.length ≤ k ∧ k ≤ maxLen) := Lib.hid ⟨hk1, hk2⟩
      obtain ⟨x, hx⟩ : ∃ x, cl[j]'HJC.out = x := ⟨_, rfl⟩
      obtain ⟨v, hv⟩ : ∃ v, (ns[j]'HJN.out).var = v := ⟨_, rfl⟩
      obtain ⟨nm, hnm⟩ : ∃ v, (ns[j]'HJN.out).name = v := ⟨_, rfl⟩
      obtain ⟨m, hm⟩ : ∃ v, (ns[j]'HJN.out).args.length = v := ⟨_, rfl⟩
      have HVM : Hid ((ns[j]'HJN.out).name = nm ∧ (ns[j]'HJN.out).args.length = m) := Lib.hid ⟨hnm, hm⟩
      rw [hx] at e0 HIT
      rw [hv] at d0 HIT
      rw [hnm] at d1
      rw [hm] at d2
      clear hx hv hnm hm hargs hk1 hk2
      have hnext : isTm ns cl c j = false → ∀ i, i < j + 1 → isTm ns cl c i = false := fun h i hi => by
        by_cases e : i < j
        · exact HNO.out i e
        · rw [show i = j by omega]; exact h
      have HNX := Lib.hid hnext
      clear hnext
      by_cases hxc : x = c
      · subst hxc
        by_cases hv0 : v = 0
        · have HIS : Hid (isTm ns cl x j = true) := Lib.hid (HIT.out.2 ⟨rfl, hv0⟩)
          have HTR : Hid (tmR ns cl x = some j) := Lib.hid (tmR_some HJN.out HIS.out HNO.out)
          subst hv0
          have hxl := HX.out.lt
          have x0 := HX.out.cell 0; have x1 := HX.out.cell 1; have x2 := HX.out.cell 2; have x0f := HX.out.frozen 0; have x1f := HX.out.frozen 1; have x2f := HX.out.frozen 2
          simp at x0 x1 x2
          clear HIS HIT HNO HNX
          go_wp2
          have hz := ((HX.out.set_ 0 (.int .i64 0)).set_ 1 (.string nm)).set_ 2 (.slice S m k)
          have z0 := hz.cell 0; have z1 := hz.cell 1; have z2 := hz.cell 2
          simp at z0 z1 z2
          refine bodyPost_ret (v := .tuple #[.agg #[.int .i64 0, .string nm, .slice S m k], .bool true]) (by simp [results, Try.results53, go_sem, z0, z1, z2]) rfl ?_
          refine ⟨.inl ⟨j, HJN.out, HTR.out, S, k, by rw [HVM.out.1, HVM.out.2], HKK.out.1, HKK.out.2, HAR.out⟩, ?_⟩
          exact ((HB.out.setCell (p := ⟨w.heap.size, 0, none⟩) (Nat.le_refl _) _).setCell (p := ⟨w.heap.size, 1, none⟩) (Nat.le_refl _) _).setCell (p := ⟨w.heap.size, 2, none⟩) (Nat.le_refl _) _
        · have HIS : Hid (isTm ns cl x j = false) := Lib.hid (by rw [Bool.eq_false_iff]; exact fun h => hv0 (HIT.out.1 h).2)
          clear HIT
          go_wp2
          go_roundg (n - (j + 1))
          case measure => omega
          case rel => exact ⟨j + 1, by go_num, rfl, by omega, HB.out, HX.out, HNX.out HIS.out⟩
      · have hxc' : ¬ (x : Int) = c := by omega
        have HIS : Hid (isTm ns cl c j = false) := Lib.hid (by rw [Bool.eq_false_iff]; exact fun h => hxc (HIT.out.1 h).1)
        clear HIT
        go_wp2
        go_roundg (n - (j + 1))
        case measure => omega
        case rel => exact ⟨j + 1, by go_num, rfl, by omega, HB.out, HX.out, HNX.out HIS.out⟩
    · have hlt' : ¬ (j : Int) < n := by omega
      have hjn : j = n := by omega
      have HTR : Hid (tmR ns cl c = none) := Lib.hid (tmR_none fun i hi => HNO.out i (by rw [HN1.out] at hi; omega))
      have hxl := HX.out.lt
      have x0 := HX.out.cell 0; have x1 := HX.out.cell 1; have x2 := HX.out.cell 2; have x0f := HX.out.frozen 0; have x1f := HX.out.frozen 1; have x2f := HX.out.frozen 2
      simp at x0 x1 x2
      clear hjn HNO
      go_wp2
      have hz := ((HX.out.set_ 0 (.int .i64 0)).set_ 1 (.string ⟨#[]⟩)).set_ 2 (.slice none 0 0)
      have z0 := hz.cell 0; have z1 := hz.cell 1; have z2 := hz.cell 2
      simp at z0 z1 z2
      refine bodyPost_ret (v := .tuple #[.agg #[.int .i64 0, .string ⟨#[]⟩, .slice none 0 0], .bool false]) (by simp [results, Try.results53, go_sem, z0, z1, z2]) rfl ?_
      refine ⟨.inr ⟨HTR.out, rfl⟩, ?_⟩
      exact ((HB.out.setCell (p := ⟨w.heap.size, 0, none⟩) (Nat.le_refl _) _).setCell (p := ⟨w.heap.size, 1, none⟩) (Nat.le_refl _) _).setCell (p := ⟨w.heap.size, 2, none⟩) (Nat.le_refl _) _
theorem rterm_any (w : World) (B p g gc n cn cc : Nat) (ns : List TN) (cl : List Nat) (h : RM w B p (.slice (some ⟨g, 0, none⟩) n cn) (.slice (some ⟨gc, 0, none⟩) n cc) ns cl) (hl : n ≤ 1048576) (hn1 : ns.length = n) (hn2 : cl.length = n) (c : Nat) :
    Calls Try.prog 53 #[.pointer (some ⟨p, 0, none⟩), .int .i64 c] w fun e w' => TermIs w ns cl c e ∧ Below w.heap.size w w' := rterm_at w w B p g gc n cn cc ns cl h (Below.refl _ _) hl hn1 hn2 c
end Go.Proofs.Ytgcbnndbeoekgaa
