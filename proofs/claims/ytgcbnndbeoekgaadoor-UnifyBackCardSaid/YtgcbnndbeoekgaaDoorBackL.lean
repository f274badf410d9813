import Derived.Test.YtgcbnndbeoekgaaDoorAwakeP
import Derived.Test.YtgcbnndbeoekgaaDoorFewP
import Derived.Test.YtgcbnndbeoekgaaDoorNFP
import Derived.Test.YtgcbnndbeoekgaaDoorFoldsU
import Derived.Test.YtgcbnndbeoekgaaDoorBackT
set_option linter.unusedSimpArgs false
set_option linter.unusedVariables false
section
/- what a bound that is found does to terms; what is found where there is another: in plain Lean -/
namespace Go.Proofs.YtgcbnndbeoekgaaDoor
open Go Go.RowKit

theorem size_sub {σ : Nat → Option Fo} (h : One1 σ) : ∀ K : Fo, K.size ≤ (K.sub σ).size
  | .nil => Nat.le_refl _
  | .hole n r => by
    show 1 + r.size ≤ ((stood σ n).app2 (r.sub σ)).size
    rw [Fo.size_app2]
    have := Fo.one_size (h.stood n)
    have := size_sub h r
    omega
  | .app _ k r => by
    show 1 + k.size + r.size ≤ 1 + (k.sub σ).size + (r.sub σ).size
    have := size_sub h k
    have := size_sub h r
    omega
section
variable {bs us : List (Nat × Fo)} {E : List (Fo × Fo)}
theorem std_size (h : ∀ p ∈ us, p.2.size ≤ 256) (n : Nat) : (std us n).size ≤ 256 := by
  unfold std stood
  cases e : lookB us n with
  | none => show 1 ≤ 256; omega
  | some T => exact h _ (lookB_mem e)
/-- where there is a bound, there is one found -/
theorem find_ok {o : Outc} (h : Comes E o) (hu : NF us) (h256 : ∀ p ∈ us, p.2.size ≤ 256) (hs : Sat (valB us) E) : ∃ bs, o = .ok bs := by
  cases o with
  | clash => exact absurd hs (h _)
  | occurs => exact absurd hs (h.2 _ (fin_valB us))
  | ok bs => exact ⟨bs, rfl⟩
  | long =>
    exfalso
    obtain ⟨bs, hb, hi, p, hp, hl⟩ := h
    have h1 : valB us p.1 = ev (valB us) p.2 := (hi _).1 hs p hp
    rw [ev_valB hu] at h1
    have h2 := ev_leaf_inj (std_one hu p.1) (sub_one1 hu.onesB.2 (hb.one p hp)) h1
    have h3 := std_size h256 p.1
    have h4 := size_sub hu.onesB.2 p.2
    rw [← h2] at h4
    omega
end
section
variable {b u : List ABind} {l l1 l2 : List TN}
theorem may_nf (h : MayP b) : NF (bsOf b) := nf_of_may h (bsOf_ok h) (bsOf_ok h).eq
theorem sub_is_one (h : MayP b) (h2 : rightI l = 0) : (subOf b l).one := sub_one1 (may_nf h).onesB.2 (treeOf_ok h2).1
theorem sub_is_wf (h : MayP b) (h2 : rightI l = 0) : (subOf b l).wf := Fo.sub_wf (bsOf_ok h).ones (treeOf_ok h2).2.1
theorem sub_okT (h : MayP b) (h2 : rightI l = 0) (h3 : ¬ 256 < (subOf b l).size) : OkT (subOf b l) := ⟨sub_is_one h h2, sub_is_wf h h2, by omega⟩
theorem apply_fact (b : List ABind) (l : List TN) : (applyE b l = 0 ∧ MayP b ∧ rightI l = 0 ∧ ¬ 256 < (subOf b l).size ∧ applyL b l = (subOf b l).flat 0) ∨ (applyE b l = 3 ∧ rightI l = 0 ∧ applyL b l = []) ∨ (applyE b l ≠ 0 ∧ (MayP b → applyE b l = rightI l) ∧ applyL b l = []) := by
  by_cases h : MayP b
  · by_cases h2 : rightI l = 0
    · by_cases h3 : 256 < (subOf b l).size
      · obtain ⟨a, c⟩ := apply_long h h2 h3
        exact .inr (.inl ⟨a, h2, c⟩)
      · obtain ⟨a, c⟩ := apply_ok h h2 h3
        exact .inl ⟨a, h, h2, h3, c⟩
    · obtain ⟨a, c⟩ := apply_bad h h2
      exact .inr (.inr ⟨by rw [a]; exact h2, fun _ => a, c⟩)
  · obtain ⟨a, c⟩ := apply_not h
    exact .inr (.inr ⟨by rw [a]; decide, fun h' => absurd h' h, c⟩)
theorem pair_solved (h : MayP u) (h2 : rightI l1 = 0) (h3 : rightI l2 = 0) (e : ev (valB (bsOf u)) (treeOf l1) = ev (valB (bsOf u)) (treeOf l2)) : subOf u l1 = subOf u l2 := by
  rw [ev_valB (may_nf h), ev_valB (may_nf h)] at e
  exact ev_leaf_inj (sub_is_one h h2) (sub_is_one h h3) e
end
section
variable {ps ps' : List (List TN × List TN)} {k : Nat} {out u : List ABind}
theorem SolvedTo.may (h : SolvedTo ps k out) : MayP out := by
  obtain ⟨bs, h1, h2⟩ := h.out
  rw [h2]; exact ok_may h.wf h1
theorem SolvedTo.bs (h : SolvedTo ps k out) : Comes (eqsP ps k) (.ok (bsOf out)) := by
  obtain ⟨bs, h1, h2⟩ := h.out
  rw [h2, bsOf_map h.wf h1]; exact h1
theorem mem_eqsP {i : Nat} (hi : i < ps.length) (hk : i < k) : (treeOf ps[i].1, treeOf ps[i].2) ∈ eqsP ps k :=
  List.mem_map.2 ⟨ps[i], List.mem_take_iff_getElem.2 ⟨i, by omega, rfl⟩, rfl⟩
/-- what is found makes both terms of each pair alike -/
theorem SolvedTo.alike (h : SolvedTo ps k out) {i : Nat} (hi : i < ps.length) (hk : i < k) : subOf out ps[i].1 = subOf out ps[i].2 := by
  have h1 := h.bs
  have h2 : Sat (valB (bsOf out)) (eqsP ps k) := (h1.2.1 _).2 (valB_sat h1.1)
  obtain ⟨r1, r2⟩ := h.right i hi hk
  exact pair_solved h.may r1 r2 (h2 _ (mem_eqsP hi hk))
/-- all pairs are of right terms, and have a bound -/
def Fine (ps : List (List TN × List TN)) : Prop := (∀ p ∈ ps, rightI p.1 = 0 ∧ rightI p.2 = 0) ∧ ∃ us, NF us ∧ (∀ p ∈ us, p.2.size ≤ 256) ∧ Sat (valB us) (eqsP ps ps.length)
theorem StepErr.ne {err : Int} (h : StepErr ps k err) : err ≠ 0 := by
  obtain ⟨_, ⟨a, b⟩ | ⟨_, a, b⟩ | ⟨_, _, o, _, a, b⟩⟩ := h
  · rw [b]; exact a
  · rw [b]; exact a
  · cases o with
    | ok bs => exact absurd rfl (a bs)
    | clash => rw [b.1]; decide
    | occurs => rw [b.1]; decide
    | long => rw [b.1]; decide
theorem SolveSays.ok_of {err at_ : Int} (h : SolveSays ps err at_ out) (hl : ps.length ≤ 4096) (hf : Fine ps) : SolvedTo ps ps.length out ∧ err = 0 ∧ at_ = 0 := by
  rcases h with ⟨a, _⟩ | ⟨_, a, b, c⟩ | ⟨_, k, o, a, ⟨hk, c⟩, _⟩
  · omega
  · exact ⟨a, b, c⟩
  · exfalso
    obtain ⟨f1, us, f2, f3, f4⟩ := hf
    obtain ⟨r1, r2⟩ := f1 _ (List.getElem_mem hk)
    rcases c with ⟨c, _⟩ | ⟨_, c, _⟩ | ⟨_, _, o', c, d, _⟩
    · exact c r1
    · exact c r2
    · obtain ⟨bs, e⟩ := find_ok c f2 f3 (fun p hp => f4 p (by
        obtain ⟨q, hq, rfl⟩ := List.mem_map.1 hp
        refine List.mem_map.2 ⟨q, ?_, rfl⟩
        rw [List.take_length]
        exact List.mem_of_mem_take hq))
      exact d bs e
/-- what Solve says: it is found, or it is not, and there is none -/
theorem SolveSays.cases {err at_ : Int} (h : SolveSays ps err at_ out) (hl : ps.length ≤ 4096) : (err = 0 ∧ at_ = 0 ∧ SolvedTo ps ps.length out) ∨ (err ≠ 0 ∧ out = [] ∧ ¬ Fine ps ∧ 0 ≤ at_ ∧ at_ < (ps.length : Nat)) := by
  rcases h with ⟨a, _⟩ | ⟨_, a, b, c⟩ | ⟨h4, k, o, a, b, c, d⟩
  · omega
  · exact .inl ⟨b, c, a⟩
  · refine .inr ⟨b.ne, d, fun hf => b.ne ?_, by omega, by have := b.choose; omega⟩
    exact (SolveSays.ok_of (.inr (.inr ⟨h4, k, o, a, b, c, d⟩)) hl hf).2.1
/-- a bound makes the pairs ahead alike -/
def Alk (u : List ABind) (ps : List (List TN × List TN)) (i : Nat) : Prop := ∀ j (h : j < ps.length), j < i → MayP u ∧ rightI ps[j].1 = 0 ∧ rightI ps[j].2 = 0 ∧ subOf u ps[j].1 = subOf u ps[j].2
theorem Alk.start (u : List ABind) (ps : List (List TN × List TN)) : Alk u ps 0 := fun _ _ h => absurd h (Nat.not_lt_zero _)
theorem apply_tree {l : List TN} (h : applyE u l = 0) : ∃ T, OkT T ∧ applyL u l = T.flat 0 ∧ MayP u ∧ rightI l = 0 ∧ subOf u l = T := by
  rcases apply_fact u l with ⟨_, a, b, c, d⟩ | ⟨a, _⟩ | ⟨a, _⟩
  · exact ⟨_, sub_okT a b c, d, a, b, rfl⟩
  · rw [a] at h; exact absurd h (by decide)
  · exact absurd h a
theorem Alk.next {i : Nat} (h : Alk u ps i) (hi : i < ps.length) (h1 : applyE u ps[i].1 = 0) (h2 : applyE u ps[i].2 = 0) : ∃ T1 T2, OkT T1 ∧ OkT T2 ∧ applyL u ps[i].1 = T1.flat 0 ∧ applyL u ps[i].2 = T2.flat 0 ∧ (T1 = T2 → Alk u ps (i + 1)) := by
  obtain ⟨T1, a1, a2, a3, a4, a5⟩ := apply_tree h1
  obtain ⟨T2, b1, b2, _, b4, b5⟩ := apply_tree h2
  refine ⟨T1, T2, a1, b1, a2, b2, fun e j hj hji => ?_⟩
  by_cases hlt : j < i
  · exact h j hj hlt
  · have : j = i := by omega
    subst this
    exact ⟨a3, a4, b4, by rw [a5, b5, e]⟩
end
end Go.Proofs.YtgcbnndbeoekgaaDoor
end
section
/- the law: a term's text is read back as the term, and what is read is printed as it was; given that awake answers true -/
namespace Go.Proofs.YtgcbnndbeoekgaaDoor
open Go Go.RowKit Go.Maps

theorem txt_len {T : Fo} (h : OkT T) : (T.txt false).length ≤ 40 * T.size := by
  have h1 := parT_len (A := Fo.nil.app2 T) h.2.1
  rw [parT_next h.1] at h1
  have h2 : (parT Fo.nil).length = 0 := rfl
  rw [List.length_append, List.length_append, h2] at h1
  have h3 : (if Fo.nil.cnt = 0 then ([40] : List UInt8) else [44]).length = 1 := rfl
  rw [h3] at h1
  have h4 : (Fo.nil.app2 T).size = T.size := rfl
  omega
theorem okT_names3 {T : Fo} (h : OkT T) : ∀ t ∈ T.flat 0, t.name.size ≤ 9223372036854775807 := fun t ht => node_small (flat_nodeR T 0 h.2.1 t ht)

set_option maxRecDepth 100000 in
set_option maxHeartbeats 16000000 in
theorem backL_any (HAW : AwakeOk) (u : Value) (l : List TN) (text : ByteArray) (w : World) (hx : IsRow 3 ETN w (fun b => b < w.heap.size) u l) (hzx : TermAll l) (htx : text.size ≤ 9223372036854775807) (ht : Tab w) :
    Calls Tryd.prog 4 #[.agg #[u], .string text] w fun e w' => e = .returned (.bool true) ∧ Below w.heap.size w w' := by
  obtain ⟨S, k, rfl, x1, x2, x3⟩ := hx
  have HTB := Lib.hid ht; have HX := Lib.hid x3; have HZX := Lib.hid hzx; have HXC := Lib.hid (And.intro x1 x2); have HTX := Lib.hid htx
  have HSMX : Hid (∀ t ∈ l, t.name.size ≤ 9223372036854775807) := Lib.hid (fun t ht => (HZX.out.1 t ht).1)
  obtain ⟨m, hm⟩ : ∃ m, l.length = m := ⟨_, rfl⟩
  have HM := Lib.hid hm
  rw [hm]
  clear ht hm hzx x1 x2 x3
  go_enter Tryd.func4, Tryd.ntmps4
  obtain ⟨u1, hu⟩ : ∃ u : World, w.alloc (.cells #[.slice S m k] 24) = u := ⟨_, rfl⟩
  have HBU : Below w.heap.size w u1 := by rw [← hu]; exact (Below.refl _ _).alloc (Nat.le_refl _) _
  have HBX : Hid (Blk u1 w.heap.size 24 #[.slice S m k]) := Lib.hid (by rw [← hu]; exact Blk.new _ _ _)
  have HUE := Lib.hid hu
  clear hu
  have HB_w : Hid (Below w.heap.size w u1) := Lib.hid HBU
  clear HBU
  go_wp2_with fail
  (try rw [HUE.out])
  refine (HAW _ (HTB.out.below HB_w.out)).mono ?_
  rintro _ w0 ⟨rfl, hb⟩
  replace HB_w : Hid (Below w.heap.size w w0) := Lib.hid (HB_w.out.trans (hb.mono HB_w.out.size))
  replace HBX := Lib.hid (HBX.out.below hb HBX.out.lt)
  clear hb HUE HAW
  have HRI : Hid (∀ w', Below w.heap.size w w' → Calls Tryd.prog 9 #[.agg #[.slice S m k]] w' fun e w2 => e = .returned (.int .i64 (rightI l)) ∧ Below w'.heap.size w' w2) := Lib.hid (fun w' hb => by
    rw [← HM.out]
    exact uright_any S k l w' (fun b => b < w'.heap.size) (fun b h => h) (HX.out.keep ETN.stays (Keep.below hb (fun b h => h)) (fun b h => Nat.lt_of_lt_of_le h hb.size)) HXC.out.1 HXC.out.2 HSMX.out)
  by_cases hri : rightI l = 0
  rotate_left 1
  · have HPB := Lib.hid (uprint_bad S k l w0 (fun b => b < w0.heap.size) (fun b h => h) HXC.out.1 HXC.out.2 (HX.out.keep ETN.stays (Keep.below HB_w.out (fun b h => h)) (fun b h => Nat.lt_of_lt_of_le h HB_w.out.size)) hri HSMX.out)
    rw [HM.out] at HPB
    obtain ⟨r, hr⟩ : ∃ r, rightI l = r := ⟨_, rfl⟩
    rw [hr] at HRI hri
    have hri' : (r == 0) = false := beq_eq_false_iff_ne.2 hri
    clear hr hri
    have HBXc0 := HBX.out.cell 0
    have HBXlt := HBX.out.lt
    simp at HBXc0
    go_wp2_with fail
    refine HPB.out.mono ?_
    rintro _ w1 ⟨rfl, hb⟩
    replace HB_w : Hid (Below w.heap.size w w1) := Lib.hid (HB_w.out.trans (hb.mono HB_w.out.size))
    replace HBX := Lib.hid (HBX.out.below hb HBX.out.lt)
    clear hb HPB HBXc0 HBXlt
    have HBXc0 := HBX.out.cell 0
    have HBXlt := HBX.out.lt
    simp at HBXc0
    go_wp2_with fail
    refine (HRI.out _ HB_w.out).mono ?_
    rintro _ w2 ⟨rfl, hb⟩
    replace HB_w : Hid (Below w.heap.size w w2) := Lib.hid (HB_w.out.trans (hb.mono HB_w.out.size))
    replace HBX := Lib.hid (HBX.out.below hb HBX.out.lt)
    clear hb HRI HBXc0 HBXlt
    go_upto_region 17 with fail
    clear hri'
    go_wp2_with fail
    refine (parse_any text HTX.out _).mono ?_
    rintro _ wp ⟨vz, zi, ze, zl, rfl, hs, hb, hr⟩
    obtain ⟨Az, cz, rfl, y1, y2, y3⟩ := hr
    have HZR := Lib.hid y3; have HZC := Lib.hid (And.intro y1 y2)
    replace HB_w : Hid (Below w.heap.size w wp) := Lib.hid (HB_w.out.trans (hb.mono HB_w.out.size))
    replace HBX := Lib.hid (HBX.out.below hb HBX.out.lt)
    clear hb y1 y2 y3
    rcases hs.back with ⟨rfl, rfl, T, hT, htt, hl⟩ | ⟨he, hl, hi1, hi2, he2⟩
    · have HOT := Lib.hid hT; have HTT := Lib.hid htt
      subst hl
      obtain ⟨lz, hlz⟩ : ∃ z, (T.flat 0).length = z := ⟨_, rfl⟩
      have HLZ := Lib.hid hlz
      rw [hlz]
      clear hlz hT htt hs
      obtain ⟨u2, hu⟩ : ∃ u : World, wp.alloc (.cells #[.slice Az lz cz] 24) = u := ⟨_, rfl⟩
      have HBU : Below wp.heap.size wp u2 := by rw [← hu]; exact (Below.refl _ _).alloc (Nat.le_refl _) _
      have HBZ : Hid (Blk u2 wp.heap.size 24 #[.slice Az lz cz]) := Lib.hid (by rw [← hu]; exact Blk.new _ _ _)
      have HUE := Lib.hid hu
      clear hu
      replace HB_w : Hid (Below w.heap.size w u2) := Lib.hid (HB_w.out.trans (HBU.mono HB_w.out.size))
      have HB_wp : Hid (Below wp.heap.size wp u2) := Lib.hid HBU
      replace HBX := Lib.hid (HBX.out.below HBU HBX.out.lt)
      clear HBU
      go_upto_region 20 with fail
      (try rw [HUE.out])
      (try clear HUE)
      have HBZc0 := HBZ.out.cell 0
      have HBZlt := HBZ.out.lt
      simp at HBZc0
      have HPR := Lib.hid (uprint_good Az cz T u2 (fun b => b < u2.heap.size) (fun b h => h) HOT.out.1 HOT.out.2.1 HOT.out.2.2 HZC.out.1 HZC.out.2 (HZR.out.keep ETN.stays (Keep.below HB_wp.out (fun b h => h)) (fun b h => Nat.lt_of_lt_of_le h HB_wp.out.size)) (right_tree HOT.out.1 HOT.out.2.1 HOT.out.2.2) (okT_names3 HOT.out) (Tab.below HTB.out HB_w.out))
      rw [HLZ.out, HTT.out] at HPR
      go_wp2_with fail
      refine HPR.out.mono ?_
      rintro _ wq ⟨rfl, hb⟩
      replace HB_w : Hid (Below w.heap.size w wq) := Lib.hid (HB_w.out.trans (hb.mono HB_w.out.size))
      replace HB_wp : Hid (Below wp.heap.size wp wq) := Lib.hid (HB_wp.out.trans (hb.mono HB_wp.out.size))
      replace HBX := Lib.hid (HBX.out.below hb HBX.out.lt)
      replace HBZ := Lib.hid (HBZ.out.below hb HBZ.out.lt)
      clear hb HPR HBZc0 HBZlt
      go_wp2
      go_ret
      exact ⟨rfl, HB_w.out⟩
    · subst hl
      try rw [show ([] : List TN).length = 0 from rfl]
      have he' : (ze != 0) = true := by simp; exact he
      have hi3 : ¬ zi < 0 := by omega
      clear he hs
      obtain ⟨u2, hu⟩ : ∃ u : World, wp.alloc (.cells #[.slice Az 0 cz] 24) = u := ⟨_, rfl⟩
      have HBU : Below wp.heap.size wp u2 := by rw [← hu]; exact (Below.refl _ _).alloc (Nat.le_refl _) _
      have HBZ : Hid (Blk u2 wp.heap.size 24 #[.slice Az 0 cz]) := Lib.hid (by rw [← hu]; exact Blk.new _ _ _)
      have HUE := Lib.hid hu
      clear hu
      replace HB_w : Hid (Below w.heap.size w u2) := Lib.hid (HB_w.out.trans (HBU.mono HB_w.out.size))
      have HB_wp : Hid (Below wp.heap.size wp u2) := Lib.hid HBU
      replace HBX := Lib.hid (HBX.out.below HBU HBX.out.lt)
      clear HBU
      go_upto_region 18 with fail
      (try rw [HUE.out])
      (try clear HUE)
      have HBZc0 := HBZ.out.cell 0
      have HBZlt := HBZ.out.lt
      simp at HBZc0
      rcases he2 with rfl | rfl
      · go_wp2
        go_ret
        exact ⟨rfl, HB_w.out⟩
      · go_wp2
        go_ret
        exact ⟨rfl, HB_w.out⟩
  rw [hri] at HRI
  obtain ⟨T, t1, t2, t3, t4⟩ : ∃ T : Fo, T.one ∧ T.wf ∧ l = T.flat 0 ∧ T.size ≤ 256 := ⟨_, treeOf_ok hri⟩
  subst t3
  have HOT : Hid (OkT T) := Lib.hid ⟨t1, t2, t4⟩
  have HPR := Lib.hid (uprint_good S k T w0 (fun b => b < w0.heap.size) (fun b h => h) t1 t2 t4 HXC.out.1 HXC.out.2 (HX.out.keep ETN.stays (Keep.below HB_w.out (fun b h => h)) (fun b h => Nat.lt_of_lt_of_le h HB_w.out.size)) hri HSMX.out (Tab.below HTB.out HB_w.out))
  rw [HM.out] at HPR
  have HPRE : Hid (∀ n : Nat, n ≤ (byt (T.txt false)).size → ∀ i err l, Says ((byt (T.txt false)).extract 0 n) i err l → err = 0 ∨ (err = 2 ∧ i = (n : Nat))) := Lib.hid (fun n hn i err l h => h.pre HOT.out hn)
  have HSAY : Hid (Says (byt (T.txt false)) 0 0 (T.flat 0)) := Lib.hid (.inl ⟨rfl, rfl, reads_one t1 t2 t4 rfl⟩)
  have hlen : (byt (T.txt false)).size ≤ 10240 := by have := txt_len HOT.out; show (T.txt false).length ≤ 10240; omega
  have hne := txt_ne t1 t2
  obtain ⟨st, hst⟩ : ∃ z, byt (T.txt false) = z := ⟨_, rfl⟩
  rw [hst] at HPR HPRE HSAY hlen hne
  have g0 : (!st.toList.isEmpty) = true := bytes_some hne
  have hpos : 0 < st.size := by
    rcases Nat.eq_zero_or_pos st.size with h | h
    · exfalso
      refine hne ?_
      cases st with
      | mk d =>
        have : d.size = 0 := h
        rw [Array.eq_empty_of_size_eq_zero this]
    · exact h
  clear hst t1 t2 t4 hri hne
  have HBXc0 := HBX.out.cell 0
  have HBXlt := HBX.out.lt
  simp at HBXc0
  go_wp2_with fail
  refine HPR.out.mono ?_
  rintro _ w1 ⟨rfl, hb⟩
  replace HB_w : Hid (Below w.heap.size w w1) := Lib.hid (HB_w.out.trans (hb.mono HB_w.out.size))
  replace HBX := Lib.hid (HBX.out.below hb HBX.out.lt)
  clear hb HPR HBXc0 HBXlt
  have HBXc0 := HBX.out.cell 0
  have HBXlt := HBX.out.lt
  simp at HBXc0
  go_wp2_with fail
  refine (HRI.out _ HB_w.out).mono ?_
  rintro _ w2 ⟨rfl, hb⟩
  replace HB_w : Hid (Below w.heap.size w w2) := Lib.hid (HB_w.out.trans (hb.mono HB_w.out.size))
  replace HBX := Lib.hid (HBX.out.below hb HBX.out.lt)
  clear hb HRI HBXc0 HBXlt
  go_wp2_with fail
  refine (parse_any st (by omega) _).mono ?_
  rintro _ w3 ⟨vy, yi, ye, yl, rfl, hs, hb, hr⟩
  obtain ⟨rfl, rfl, rfl⟩ := hs.same HSAY.out
  obtain ⟨Ay, cy, rfl, y1, y2, y3⟩ := hr
  have HYR := Lib.hid y3; have HYC := Lib.hid (And.intro y1 y2)
  replace HB_w : Hid (Below w.heap.size w w3) := Lib.hid (HB_w.out.trans (hb.mono HB_w.out.size))
  replace HBX := Lib.hid (HBX.out.below hb HBX.out.lt)
  clear hb hs y1 y2 y3
  rw [HM.out]
  obtain ⟨u2, hu⟩ : ∃ u : World, w3.alloc (.cells #[.slice Ay m cy] 24) = u := ⟨_, rfl⟩
  have HBU : Below w3.heap.size w3 u2 := by rw [← hu]; exact (Below.refl _ _).alloc (Nat.le_refl _) _
  have HBY : Hid (Blk u2 w3.heap.size 24 #[.slice Ay m cy]) := Lib.hid (by rw [← hu]; exact Blk.new _ _ _)
  have HUE := Lib.hid hu
  clear hu
  replace HB_w : Hid (Below w.heap.size w u2) := Lib.hid (HB_w.out.trans (HBU.mono HB_w.out.size))
  have HB_w3 : Hid (Below w3.heap.size w3 u2) := Lib.hid HBU
  replace HBX := Lib.hid (HBX.out.below HBU HBX.out.lt)
  clear HBU
  go_upto_region 9 with fail
  (try rw [HUE.out])
  (try clear HUE)
  have HBXc0 := HBX.out.cell 0
  have HBXlt := HBX.out.lt
  simp at HBXc0
  have HBYc0 := HBY.out.cell 0
  have HBYlt := HBY.out.lt
  simp at HBYc0
  have HAL := Lib.hid (ualike_any S k Ay cy T HOT.out u2 (fun b => b < u2.heap.size) (fun b h => h) (HX.out.keep ETN.stays (Keep.below HB_w.out (fun b h => h)) (fun b h => Nat.lt_of_lt_of_le h HB_w.out.size)) HXC.out.1 HXC.out.2 (HYR.out.keep ETN.stays (Keep.below HB_w3.out (fun b h => h)) (fun b h => Nat.lt_of_lt_of_le h HB_w3.out.size)) HYC.out.1 HYC.out.2 (HTB.out.below HB_w.out))
  rw [HM.out] at HAL
  go_wp2_with fail
  refine HAL.out.mono ?_
  rintro _ w4 ⟨rfl, hb⟩
  replace HB_w : Hid (Below w.heap.size w w4) := Lib.hid (HB_w.out.trans (hb.mono HB_w.out.size))
  replace HB_w3 : Hid (Below w3.heap.size w3 w4) := Lib.hid (HB_w3.out.trans (hb.mono HB_w3.out.size))
  replace HBX := Lib.hid (HBX.out.below hb HBX.out.lt)
  replace HBY := Lib.hid (HBY.out.below hb HBY.out.lt)
  clear hb HAL HBXc0 HBXlt HBYc0 HBYlt
  have HBXc0 := HBX.out.cell 0
  have HBXlt := HBX.out.lt
  simp at HBXc0
  have HBYc0 := HBY.out.cell 0
  have HBYlt := HBY.out.lt
  simp at HBYc0
  go_upto_region 12 with fail
  clear HBXc0 HBXlt HBYc0 HBYlt
  clear HB_w3
  go_loopg [10] 199 (fun g s10 wx => ∃ (n : Nat), s10 = .int .i64 n ∧ g = 200 - n ∧ 1 ≤ n ∧ n ≤ 200 ∧ Below w4.heap.size w4 wx)
  case atStart => exact ⟨1, rfl, rfl, Nat.le_refl _, by omega, Below.refl _ _⟩
  case round =>
    obtain ⟨n, rfl, rfl, hn1, hn2, hb⟩ := hrel
    have n0 : (0 : Int) ≤ n := by omega
    replace HB_w : Hid (Below w.heap.size w wr) := Lib.hid (HB_w.out.trans (hb.mono HB_w.out.size))
    have HB_w4 : Hid (Below w4.heap.size w4 wr) := Lib.hid hb
    clear hb
    by_cases hi1 : n < st.size
    rotate_left 1
    · have hi1' : ¬ (n : Int) < st.size := by omega
      go_upto_region 17 with fail
      go_wp2_with fail
      refine (parse_any text HTX.out _).mono ?_
      rintro _ wp ⟨vz, zi, ze, zl, rfl, hs, hb, hr⟩
      obtain ⟨Az, cz, rfl, y1, y2, y3⟩ := hr
      have HZR := Lib.hid y3; have HZC := Lib.hid (And.intro y1 y2)
      replace HB_w : Hid (Below w.heap.size w wp) := Lib.hid (HB_w.out.trans (hb.mono HB_w.out.size))
      replace HB_w4 : Hid (Below w4.heap.size w4 wp) := Lib.hid (HB_w4.out.trans (hb.mono HB_w4.out.size))
      clear hb y1 y2 y3
      rcases hs.back with ⟨rfl, rfl, T, hT, htt, hl⟩ | ⟨he, hl, hi1, hi2, he2⟩
      · have HOT := Lib.hid hT; have HTT := Lib.hid htt
        subst hl
        obtain ⟨lz, hlz⟩ : ∃ z, (T.flat 0).length = z := ⟨_, rfl⟩
        have HLZ := Lib.hid hlz
        rw [hlz]
        clear hlz hT htt hs
        obtain ⟨u3, hu⟩ : ∃ u : World, wp.alloc (.cells #[.slice Az lz cz] 24) = u := ⟨_, rfl⟩
        have HBU : Below wp.heap.size wp u3 := by rw [← hu]; exact (Below.refl _ _).alloc (Nat.le_refl _) _
        have HBZ : Hid (Blk u3 wp.heap.size 24 #[.slice Az lz cz]) := Lib.hid (by rw [← hu]; exact Blk.new _ _ _)
        have HUE := Lib.hid hu
        clear hu
        replace HB_w : Hid (Below w.heap.size w u3) := Lib.hid (HB_w.out.trans (HBU.mono HB_w.out.size))
        replace HB_w4 : Hid (Below w4.heap.size w4 u3) := Lib.hid (HB_w4.out.trans (HBU.mono HB_w4.out.size))
        have HB_wp : Hid (Below wp.heap.size wp u3) := Lib.hid HBU
        clear HBU
        go_upto_region 20 with fail
        (try rw [HUE.out])
        (try clear HUE)
        have HBZc0 := HBZ.out.cell 0
        have HBZlt := HBZ.out.lt
        simp at HBZc0
        have HPR := Lib.hid (uprint_good Az cz T u3 (fun b => b < u3.heap.size) (fun b h => h) HOT.out.1 HOT.out.2.1 HOT.out.2.2 HZC.out.1 HZC.out.2 (HZR.out.keep ETN.stays (Keep.below HB_wp.out (fun b h => h)) (fun b h => Nat.lt_of_lt_of_le h HB_wp.out.size)) (right_tree HOT.out.1 HOT.out.2.1 HOT.out.2.2) (okT_names3 HOT.out) (Tab.below HTB.out HB_w.out))
        rw [HLZ.out, HTT.out] at HPR
        go_wp2_with fail
        refine HPR.out.mono ?_
        rintro _ wq ⟨rfl, hb⟩
        replace HB_w : Hid (Below w.heap.size w wq) := Lib.hid (HB_w.out.trans (hb.mono HB_w.out.size))
        replace HB_w4 : Hid (Below w4.heap.size w4 wq) := Lib.hid (HB_w4.out.trans (hb.mono HB_w4.out.size))
        replace HB_wp : Hid (Below wp.heap.size wp wq) := Lib.hid (HB_wp.out.trans (hb.mono HB_wp.out.size))
        replace HBZ := Lib.hid (HBZ.out.below hb HBZ.out.lt)
        clear hb HPR HBZc0 HBZlt
        go_wp2
        go_ret
        exact ⟨rfl, HB_w.out⟩
      · subst hl
        try rw [show ([] : List TN).length = 0 from rfl]
        have he' : (ze != 0) = true := by simp; exact he
        have hi3 : ¬ zi < 0 := by omega
        clear he hs
        obtain ⟨u3, hu⟩ : ∃ u : World, wp.alloc (.cells #[.slice Az 0 cz] 24) = u := ⟨_, rfl⟩
        have HBU : Below wp.heap.size wp u3 := by rw [← hu]; exact (Below.refl _ _).alloc (Nat.le_refl _) _
        have HBZ : Hid (Blk u3 wp.heap.size 24 #[.slice Az 0 cz]) := Lib.hid (by rw [← hu]; exact Blk.new _ _ _)
        have HUE := Lib.hid hu
        clear hu
        replace HB_w : Hid (Below w.heap.size w u3) := Lib.hid (HB_w.out.trans (HBU.mono HB_w.out.size))
        replace HB_w4 : Hid (Below w4.heap.size w4 u3) := Lib.hid (HB_w4.out.trans (HBU.mono HB_w4.out.size))
        have HB_wp : Hid (Below wp.heap.size wp u3) := Lib.hid HBU
        clear HBU
        go_upto_region 18 with fail
        (try rw [HUE.out])
        (try clear HUE)
        have HBZc0 := HBZ.out.cell 0
        have HBZlt := HBZ.out.lt
        simp at HBZc0
        rcases he2 with rfl | rfl
        · go_wp2
          go_ret
          exact ⟨rfl, HB_w.out⟩
        · go_wp2
          go_ret
          exact ⟨rfl, HB_w.out⟩
    have hi1' : (n : Int) < st.size := by omega
    by_cases hi2 : n < 200
    rotate_left 1
    · have hi2' : ¬ (n : Int) < 200 := by omega
      go_upto_region 17 with fail
      go_wp2_with fail
      refine (parse_any text HTX.out _).mono ?_
      rintro _ wp ⟨vz, zi, ze, zl, rfl, hs, hb, hr⟩
      obtain ⟨Az, cz, rfl, y1, y2, y3⟩ := hr
      have HZR := Lib.hid y3; have HZC := Lib.hid (And.intro y1 y2)
      replace HB_w : Hid (Below w.heap.size w wp) := Lib.hid (HB_w.out.trans (hb.mono HB_w.out.size))
      replace HB_w4 : Hid (Below w4.heap.size w4 wp) := Lib.hid (HB_w4.out.trans (hb.mono HB_w4.out.size))
      clear hb y1 y2 y3
      rcases hs.back with ⟨rfl, rfl, T, hT, htt, hl⟩ | ⟨he, hl, hi1, hi2, he2⟩
      · have HOT := Lib.hid hT; have HTT := Lib.hid htt
        subst hl
        obtain ⟨lz, hlz⟩ : ∃ z, (T.flat 0).length = z := ⟨_, rfl⟩
        have HLZ := Lib.hid hlz
        rw [hlz]
        clear hlz hT htt hs
        obtain ⟨u3, hu⟩ : ∃ u : World, wp.alloc (.cells #[.slice Az lz cz] 24) = u := ⟨_, rfl⟩
        have HBU : Below wp.heap.size wp u3 := by rw [← hu]; exact (Below.refl _ _).alloc (Nat.le_refl _) _
        have HBZ : Hid (Blk u3 wp.heap.size 24 #[.slice Az lz cz]) := Lib.hid (by rw [← hu]; exact Blk.new _ _ _)
        have HUE := Lib.hid hu
        clear hu
        replace HB_w : Hid (Below w.heap.size w u3) := Lib.hid (HB_w.out.trans (HBU.mono HB_w.out.size))
        replace HB_w4 : Hid (Below w4.heap.size w4 u3) := Lib.hid (HB_w4.out.trans (HBU.mono HB_w4.out.size))
        have HB_wp : Hid (Below wp.heap.size wp u3) := Lib.hid HBU
        clear HBU
        go_upto_region 20 with fail
        (try rw [HUE.out])
        (try clear HUE)
        have HBZc0 := HBZ.out.cell 0
        have HBZlt := HBZ.out.lt
        simp at HBZc0
        have HPR := Lib.hid (uprint_good Az cz T u3 (fun b => b < u3.heap.size) (fun b h => h) HOT.out.1 HOT.out.2.1 HOT.out.2.2 HZC.out.1 HZC.out.2 (HZR.out.keep ETN.stays (Keep.below HB_wp.out (fun b h => h)) (fun b h => Nat.lt_of_lt_of_le h HB_wp.out.size)) (right_tree HOT.out.1 HOT.out.2.1 HOT.out.2.2) (okT_names3 HOT.out) (Tab.below HTB.out HB_w.out))
        rw [HLZ.out, HTT.out] at HPR
        go_wp2_with fail
        refine HPR.out.mono ?_
        rintro _ wq ⟨rfl, hb⟩
        replace HB_w : Hid (Below w.heap.size w wq) := Lib.hid (HB_w.out.trans (hb.mono HB_w.out.size))
        replace HB_w4 : Hid (Below w4.heap.size w4 wq) := Lib.hid (HB_w4.out.trans (hb.mono HB_w4.out.size))
        replace HB_wp : Hid (Below wp.heap.size wp wq) := Lib.hid (HB_wp.out.trans (hb.mono HB_wp.out.size))
        replace HBZ := Lib.hid (HBZ.out.below hb HBZ.out.lt)
        clear hb HPR HBZc0 HBZlt
        go_wp2
        go_ret
        exact ⟨rfl, HB_w.out⟩
      · subst hl
        try rw [show ([] : List TN).length = 0 from rfl]
        have he' : (ze != 0) = true := by simp; exact he
        have hi3 : ¬ zi < 0 := by omega
        clear he hs
        obtain ⟨u3, hu⟩ : ∃ u : World, wp.alloc (.cells #[.slice Az 0 cz] 24) = u := ⟨_, rfl⟩
        have HBU : Below wp.heap.size wp u3 := by rw [← hu]; exact (Below.refl _ _).alloc (Nat.le_refl _) _
        have HBZ : Hid (Blk u3 wp.heap.size 24 #[.slice Az 0 cz]) := Lib.hid (by rw [← hu]; exact Blk.new _ _ _)
        have HUE := Lib.hid hu
        clear hu
        replace HB_w : Hid (Below w.heap.size w u3) := Lib.hid (HB_w.out.trans (HBU.mono HB_w.out.size))
        replace HB_w4 : Hid (Below w4.heap.size w4 u3) := Lib.hid (HB_w4.out.trans (HBU.mono HB_w4.out.size))
        have HB_wp : Hid (Below wp.heap.size wp u3) := Lib.hid HBU
        clear HBU
        go_upto_region 18 with fail
        (try rw [HUE.out])
        (try clear HUE)
        have HBZc0 := HBZ.out.cell 0
        have HBZlt := HBZ.out.lt
        simp at HBZc0
        rcases he2 with rfl | rfl
        · go_wp2
          go_ret
          exact ⟨rfl, HB_w.out⟩
        · go_wp2
          go_ret
          exact ⟨rfl, HB_w.out⟩
    have hi2' : (n : Int) < 200 := by omega
    have HSZ : Hid ((st.extract 0 n).size ≤ 9223372036854775807) := Lib.hid (by rw [ByteArray.size_extract]; omega)
    go_wp2_with fail
    refine (parse_any (st.extract 0 n) HSZ.out _).mono ?_
    rintro _ w5 ⟨vq, qi, qe, ql, rfl, hs, hb, hr⟩
    obtain ⟨Aq, cq, rfl, y1, y2, y3⟩ := hr
    have HSQ := Lib.hid (HPRE.out n (by omega) _ _ _ hs)
    obtain ⟨lq, hlq⟩ : ∃ z, ql.length = z := ⟨_, rfl⟩
    rw [hlq]
    clear hlq hs y1 y2 y3
    replace HB_w : Hid (Below w.heap.size w w5) := Lib.hid (HB_w.out.trans (hb.mono HB_w.out.size))
    replace HB_w4 : Hid (Below w4.heap.size w4 w5) := Lib.hid (HB_w4.out.trans (hb.mono HB_w4.out.size))
    clear hb
    obtain ⟨u3, hu⟩ : ∃ u : World, w5.alloc (.cells #[.slice Aq lq cq] 24) = u := ⟨_, rfl⟩
    have HBU : Below w5.heap.size w5 u3 := by rw [← hu]; exact (Below.refl _ _).alloc (Nat.le_refl _) _
    have HUE := Lib.hid hu
    clear hu
    replace HB_w : Hid (Below w.heap.size w u3) := Lib.hid (HB_w.out.trans (HBU.mono HB_w.out.size))
    replace HB_w4 : Hid (Below w4.heap.size w4 u3) := Lib.hid (HB_w4.out.trans (HBU.mono HB_w4.out.size))
    clear HBU
    go_upto_region 15 with fail
    (try rw [HUE.out])
    (try clear HUE)
    rcases HSQ.out with rfl | ⟨rfl, rfl⟩
    · go_wp2_with fail
      go_roundg (200 - (n + 1))
      case measure => omega
      case rel => exact ⟨n + 1, by go_num, rfl, by omega, by omega, HB_w4.out⟩
    · have hnn : ((n : Int) != (n : Int)) = false := by simp
      go_wp2_with fail
      go_roundg (200 - (n + 1))
      case measure => omega
      case rel => exact ⟨n + 1, by go_num, rfl, by omega, by omega, HB_w4.out⟩
end Go.Proofs.YtgcbnndbeoekgaaDoor
end
