/- the law: any bound is applied to any term as the chapter says -/
import Derived.Test.YtgcbnndbeoekgaaApplyU
import Derived.Test.YtgcbnndbeoekgaaApplyR
import Derived.Test.YtgcbnndbeoekgaaOwnB
import Derived.Test.YtgcbnndbeoekgaaSameB
import Derived.Test.YtgcbnndbeoekgaaData15
set_option linter.unusedSimpArgs false
set_option linter.unusedVariables false
namespace Go.Proofs.Ytgcbnndbeoekgaa
open Go Go.RowKit Go.Maps

theorem flat_sum (b : List ABind) : (∀ x ∈ b, x.term.length ≤ (b.flatMap fun x => [x.term.length, 1]).sum) ∧ b.length ≤ (b.flatMap fun x => [x.term.length, 1]).sum := by
  induction b with
  | nil => exact ⟨(fun x h => by cases h), by simp⟩
  | cons y r ih =>
    rw [List.flatMap_cons, List.sum_append]
    have e : [y.term.length, 1].sum = y.term.length + 1 := by simp
    rw [e]
    refine ⟨fun x hx => ?_, by have := ih.2; simp only [List.length_cons]; omega⟩
    rcases List.mem_cons.1 hx with h | h
    · subst h; omega
    · have := ih.1 x h; omega
/-- a bound and terms that are not wide -/
theorem narrow {ns : List Nat} {b : List ABind} (h : ¬ 400 < (lensOf ns b).sum) : (∀ n ∈ ns, n ≤ 400) ∧ b.length ≤ 400 ∧ ∀ x ∈ b, x.term.length ≤ 400 := by
  unfold lensOf lensTo at h
  rw [List.sum_append] at h
  have h1 := flat_sum (b.take 1000)
  have h2 : (b.take 1000).length ≤ 400 := by have := h1.2; omega
  have h3 : b.length ≤ 400 := by rw [List.length_take] at h2; omega
  rw [List.take_of_length_le (by omega)] at h1 h
  have key : ∀ (ns : List Nat) n, n ∈ ns → n ≤ ns.sum := by
    intro ns
    induction ns with
    | nil => intro n hn; cases hn
    | cons y r ih =>
      intro n hn
      rw [List.sum_cons]
      rcases List.mem_cons.1 hn with e | e
      · omega
      · have := ih n e; omega
  exact ⟨fun n hn => by have := key ns n hn; omega, h3, fun x hx => by have := h1.1 x hx; omega⟩
theorem lens_le {ns : List Nat} {b : List ABind} {M : Nat} (h1 : ∀ n ∈ ns, n ≤ M) (hM : 1 ≤ M) (h2 : ∀ x ∈ b, x.term.length ≤ M) : ∀ n ∈ lensOf ns b, n ≤ M := by
  intro n hn
  unfold lensOf lensTo at hn
  rcases List.mem_append.1 hn with h | h
  · exact h1 n h
  · obtain ⟨x, hx, h⟩ := List.mem_flatMap.1 h
    have := h2 x (List.mem_of_mem_take hx)
    simp only [List.mem_cons, List.not_mem_nil, or_false] at h
    omega

theorem binds_avoid {w : World} {F : Nat → Prop} {A : Option Addr} {l : List ABind} {g : Nat} (h : RowOf 2 EBind w F A l) (hg : ∀ off n, w.cell? ⟨g, off, none⟩ ≠ some (.int .i64 n)) : RowOf 2 EBind w (fun b => F b ∧ b ≠ g) A l := by
  refine ⟨fun hn => ?_, fun i hi => ?_⟩
  · have h0 : 0 < l.length := by
      cases l with
      | nil => exact absurd rfl hn
      | cons _ _ => simp
    obtain ⟨b, off, _, _, e, hb, hc, _⟩ := bind_at h h0
    exact ⟨b, off, e, hb, fun e2 => hg (off + 0 * 2) l[0].hole (by rw [← e2]; exact hc)⟩
  · obtain ⟨cs, h1, ⟨v, e, A', c', e', h3, h4, h5⟩, h6⟩ := h.2 i hi
    exact ⟨cs, h1, ⟨v, e, A', c', e', h3, h4, nodes_avoid h5 hg⟩, h6⟩

set_option maxRecDepth 100000 in
set_option maxHeartbeats 8000000 in
theorem applies_any (v0 u : Value) (bd : List ABind) (l : List TN) (w : World) (hr0 : IsRow 2 EBind w (fun b => b < w.heap.size) v0 bd) (hx0 : IsRow 3 ETN w (fun b => b < w.heap.size) u l) (hz : ∀ x ∈ bd, TermAll x.term) (hzl : TermAll l) :
    Calls Try.prog 4 #[v0, .agg #[u]] w fun e w' => e = .returned (.bool true) ∧ Below w.heap.size w w' := by
  obtain ⟨A2, c2, rfl, b1, b2, hrb⟩ := hr0
  obtain ⟨A, c, rfl, a1, a2, hr⟩ := hx0
  have HRB := Lib.hid hrb; have HR := Lib.hid hr; have HZ := Lib.hid hz; have HZL := Lib.hid hzl
  have ha2 := a2; have hb2 := b2
  unfold maxLen at a2 b2
  have HLB : Hid (∀ n ∈ lensOf [l.length] bd, n ≤ 140737488355328) := Lib.hid (lens_le (fun n hn => by simp at hn; subst hn; have := hzl.2; omega) (by omega) (fun x hx => by have := (hz x hx).2; omega))
  have HLL : Hid ((lensOf [l.length] bd).length ≤ 4000) := Lib.hid (by have := lensTo_len [l.length] bd 1000; simp at this; unfold lensOf; omega)
  have HNARROW := Lib.hid (narrow (ns := [l.length]) (b := bd))
  clear hrb hr hz hzl
  go_enter Try.func4, Try.ntmps4
  have HB0 : Hid (Below w.heap.size w ((w.alloc (.cells #[.slice A l.length c] 24)).alloc (.cells #[.slice A l.length c] 24))) := Lib.hid (((Below.refl w.heap.size w).alloc (Nat.le_refl _) _).alloc (by simp) _)
  have HT : Hid (Calls Try.prog 11 #[.slice A2 bd.length c2, .slice (some ⟨w.heap.size + 1, 0, none⟩) 1 1] ((w.alloc (.cells #[.slice A l.length c] 24)).alloc (.cells #[.slice A l.length c] 24)) fun e w' => ∃ v, e = .returned v ∧ LenRow w' (w.heap.size + 1 + 1) v (lensOf [l.length] bd) ∧ Below (w.heap.size + 1 + 1) ((w.alloc (.cells #[.slice A l.length c] 24)).alloc (.cells #[.slice A l.length c] 24)) w') := Lib.hid (by
    have := terms_any A2 c2 bd ((w.alloc (.cells #[.slice A l.length c] 24)).alloc (.cells #[.slice A l.length c] 24)) (fun b => b < w.heap.size) (fun b h => Nat.lt_of_lt_of_le h HB0.out.size) (HRB.out.keep EBind.stays (Keep.below HB0.out (fun b h => h)) (fun _ h => h)) b1 hb2 (w.heap.size + 1) [.slice A l.length c] [l.length] (Blk.new' (by simp)) (.cons ⟨_, _, rfl⟩ .nil) (by simp) 1
    simpa using this)
  go_wp2_with fail
  refine HT.out.mono ?_
  rintro _ w1 ⟨v1, rfl, hv1, hb1⟩
  have HB1 : Hid (Below w.heap.size w w1) := Lib.hid (HB0.out.trans (hb1.mono (by omega)))
  have HX1 : Hid (Blk w1 w.heap.size 24 #[.slice A l.length c]) := Lib.hid ((((Blk.new w 24 #[.slice A l.length c]).alloc _)).below (B := w.heap.size + 1 + 1) hb1 (by omega))
  have HV1 := Lib.hid (wide_any v1 (lensOf [l.length] bd) w1 _ hv1 HLB.out HLL.out)
  clear hv1 hb1 HT HB0 HLB HLL
  by_cases hw : 400 < (lensOf [l.length] bd).sum
  · have HD : Hid (decide (400 < (lensOf [l.length] bd).sum) = true) := Lib.hid (decide_eq_true hw)
    rw [HD.out] at HV1
    clear hw
    go_wp2_with (go_at_call 10; refine HV1.out.mono ?_; rintro e w' ⟨rfl, rfl⟩)
    go_ret
    exact ⟨rfl, HB1.out⟩
  have HD : Hid (decide (400 < (lensOf [l.length] bd).sum) = false) := Lib.hid (decide_eq_false hw)
  obtain ⟨n1, n2, n3⟩ := HNARROW.out hw
  have hl4 : l.length ≤ 400 := n1 _ (by simp)
  have HN3 := Lib.hid n3
  rw [HD.out] at HV1
  clear hw n1 n3 HNARROW
  go_upto_region 3 with (go_at_call 10; refine HV1.out.mono ?_; rintro e w' ⟨rfl, rfl⟩)
  have HOWN : Hid (∀ w', Below w.heap.size w w' → Calls Try.prog 12 #[.slice A2 bd.length c2] w' fun e w2 => ∃ v, e = .returned v ∧ IsRow 2 EBind w2 (fun b => w'.heap.size ≤ b ∧ b < w2.heap.size) v bd ∧ Below w'.heap.size w' w2) := Lib.hid (fun w' hb => own_any A2 c2 bd w' (fun b => b < w.heap.size) (fun b h => Nat.lt_of_lt_of_le h hb.size) (HRB.out.keep EBind.stays (Keep.below hb (fun b h => h)) (fun _ h => h)) b1 hb2 (by omega) (fun x hx => ⟨by have := HN3.out x hx; omega, fun t ht => ((HZ.out x hx).1 t ht).2.2⟩))
  have HCPY : Hid (∀ w', Below w.heap.size w w' → Calls Try.prog 13 #[.agg #[.slice A l.length c]] w' fun e w2 => ∃ v, e = .returned (.agg #[v]) ∧ IsRow 3 ETN w2 (fun b => w'.heap.size ≤ b ∧ b < w2.heap.size) v l ∧ Below w'.heap.size w' w2) := Lib.hid (fun w' hb => rcopyT_any A c l w' (fun b => b < w.heap.size) (fun b h => Nat.lt_of_lt_of_le h hb.size) (HR.out.keep ETN.stays (Keep.below hb (fun b h => h)) (fun _ h => h)) a1 ha2 (by omega) (fun t ht => (HZL.out.1 t ht).2.2))
  have HD2 : Hid (∀ w', Blk w' w.heap.size 24 #[.slice A l.length c] → w'.cell? ⟨w.heap.size, 0, none⟩ = some (.slice A l.length c) ∧ True) := Lib.hid (fun w' h => by have c0 := h.cell 0; simp at c0; exact ⟨c0, trivial⟩)
  clear HV1
  go_cut [5, 6] (fun s5 s6 wx => ∃ q zv, s6 = .pointer (some ⟨q, 0, none⟩) ∧ Below w.heap.size w wx ∧ Blk wx w.heap.size 24 #[.slice A l.length c] ∧ Blk wx q 24 #[zv] ∧ IsRow 2 EBind wx (fun b => b < wx.heap.size) s5 bd ∧ IsRow 3 ETN wx (fun b => b < wx.heap.size) zv l)
  case first =>
    obtain ⟨u, hu⟩ : ∃ u : World, w1.drew = u := ⟨_, rfl⟩
    have hbu : Below w1.heap.size w1 u := by rw [← hu]; exact (Below.refl _ _).drew
    have HBU := Lib.hid (HB1.out.trans (hbu.mono HB1.out.size))
    have HXU := Lib.hid (HX1.out.below hbu HX1.out.lt)
    clear hbu HB1 HX1
    refine wp_region_Y (S := (fun w' : World => w'.cell? ⟨w.heap.size, 0, none⟩ = some (.slice A l.length c) ∧ True)) 6 (by kernel_rfl) (by rw [hu]; exact HD2.out _ HXU.out) (fun hHeld => ?_)
    rw [hu] at hHeld ⊢
    clear hu
    refine wpAnyY_take (i := 0) (v := ?_) rfl (by kernel_rfl) (by kernel_rfl) (by kernel_rfl) (by kernel_rfl) (fun _ _ _ h => h) (Or.inl ⟨by rfl, ?_⟩) (by assumption) ?_
    rotate_left 1
    · (intro w' hSw; obtain ⟨s0, s1⟩ := hSw; go_simp); try with_reducible rfl
    try simp only [Act.put, List.setIfInBounds_toArray, List.set_cons_zero, List.set_cons_succ, Nat.zero_add]
    refine wpAnyY_take (i := 2) (v := ?_) rfl (by kernel_rfl) (by kernel_rfl) (by kernel_rfl) (by kernel_rfl) (fun _ _ _ h => h) (Or.inl ⟨by rfl, ?_⟩) (by assumption) ?_
    rotate_left 1
    · (intro w' hSw; obtain ⟨s0, s1⟩ := hSw; go_simp); try with_reducible rfl
    try simp only [Act.put, List.setIfInBounds_toArray, List.set_cons_zero, List.set_cons_succ, Nat.zero_add]
    refine wpAnyY_two (i := 1) (j := 4) rfl rfl (by kernel_rfl) (fun K hK => ?_) (fun K hK => ?_)
    · go_simp
      refine (HOWN.out _ HBU.out).mono ?_
      rintro _ v1 ⟨cv1, rfl, hrC, hb3⟩
      have HCVV1 : Hid (IsRow 2 EBind v1 (fun b => b < v1.heap.size) cv1 bd) := Lib.hid (hrC.keep EBind.stays (Keep.refl _ _) (fun b h => h.2))
      clear hrC
      have HBV1 := Lib.hid (HBU.out.trans (hb3.mono HBU.out.size))
      have HXV1 := Lib.hid (HXU.out.below hb3 HXU.out.lt)
      clear HBU HXU
      clear hb3
      refine hK.out _ _ (fun _ => HD2.out _ HXV1.out) ?_
      have hHeldV1 := HD2.out _ HXV1.out
      clear hK K
      try simp only [Act.put, List.setIfInBounds_toArray, List.set_cons_zero, List.set_cons_succ, Nat.zero_add]
      refine wpAnyY_two (i := 3) (j := 4) rfl rfl (by kernel_rfl) (fun K hK => ?_) (fun K hK => ?_)
      · go_simp
        refine (HCPY.out _ HBV1.out).mono ?_
        rintro _ v2 ⟨zv2, rfl, hrC, hb3⟩
        obtain ⟨Az2, cz2, ez, ez1, ez2, ez3⟩ := hrC
        subst ez
        have HZVV2 : Hid (IsRow 3 ETN v2 (fun b => b < v2.heap.size) (.slice Az2 l.length cz2) l) := Lib.hid ⟨_, _, rfl, ez1, ez2, ez3.keep ETN.stays (Keep.refl _ _) (fun b h => h.2)⟩
        clear ez1 ez2 ez3
        have HBV2 := Lib.hid (HBV1.out.trans (hb3.mono HBV1.out.size))
        have HXV2 := Lib.hid (HXV1.out.below hb3 HXV1.out.lt)
        have HCVV2 := Lib.hid (HCVV1.out.keep EBind.stays (Keep.below hb3 (fun b h => h)) (fun b h => Nat.lt_of_lt_of_le h hb3.size))
        clear HBV1 HXV1 HCVV1
        clear hb3
        refine hK.out _ _ (fun _ => HD2.out _ HXV2.out) ?_
        have hHeldV2 := HD2.out _ HXV2.out
        clear hK K
        try simp only [Act.put, List.setIfInBounds_toArray, List.set_cons_zero, List.set_cons_succ, Nat.zero_add]
        refine wpAnyY_one (i := 4) rfl (by kernel_rfl) (fun K hK => ?_)
        go_simp
        obtain ⟨q3, hq⟩ : ∃ q, v2.heap.size = q := ⟨_, rfl⟩
        obtain ⟨v3, hnw⟩ : ∃ x : World, v2.alloc (.cells #[.slice none 0 0] 24) = x := ⟨_, rfl⟩
        have hb3 : Below v2.heap.size v2 v3 := by rw [← hnw]; exact (Below.refl _ _).alloc (Nat.le_refl _) _
        have HQV3 : Hid (Blk v3 q3 24 #[.slice none 0 0]) := Lib.hid (by rw [← hnw]; exact Blk.new' hq.symm)
        have HQX3 : Hid (q3 ≠ w.heap.size ∧ w.heap.size ≤ q3) := Lib.hid (by have := HXV2.out.lt; omega)
        have HBV3 := Lib.hid (HBV2.out.trans (hb3.mono HBV2.out.size))
        have HXV3 := Lib.hid (HXV2.out.below hb3 HXV2.out.lt)
        have HCVV3 := Lib.hid (HCVV2.out.keep EBind.stays (Keep.below hb3 (fun b h => h)) (fun b h => Nat.lt_of_lt_of_le h hb3.size))
        have HZVV3 := Lib.hid (HZVV2.out.keep ETN.stays (Keep.below hb3 (fun b h => h)) (fun b h => Nat.lt_of_lt_of_le h hb3.size))
        clear HBV2 HXV2 HCVV2 HZVV2
        rw [hnw]
        try rw [hq]
        clear hnw hb3 hq
        refine hK.out _ _ (fun _ => HD2.out _ HXV3.out) ?_
        have hHeldV3 := HD2.out _ HXV3.out
        clear hK K
        try simp only [Act.put, List.setIfInBounds_toArray, List.set_cons_zero, List.set_cons_succ, Nat.zero_add]
        refine wpAnyY_one (i := 5) rfl (by kernel_rfl) (fun K hK => ?_)
        go_simp
        refine hK.out _ _ (fun _ => HD2.out _ HXV3.out) ?_
        clear hK K
        try simp only [Act.put, List.setIfInBounds_toArray, List.set_cons_zero, List.set_cons_succ, Nat.zero_add]
        refine wpAnyY_one0 (i := 6) rfl (by kernel_rfl) (by kernel_rfl) (fun K hK => ?_)
        have c0 := HQV3.out.cell 0; have f0 := HQV3.out.frozen 0; have hql := HQV3.out.lt
        simp at c0
        go_simp
        clear c0 f0 hql
        refine hK.out _ _ ?_
        clear hK K
        try simp only [Act.put, List.setIfInBounds_toArray, List.set_cons_zero, List.set_cons_succ, Nat.zero_add]
        refine wpAnyY_done (by kernel_rfl) ?_ _
        go_wp2_with fail
        go_meet
        case rel =>
          obtain ⟨Az, cz, hz0, hz1, hz2, hz3⟩ := HZVV3.out
          refine ⟨_, _, rfl, HBV3.out.setCell (p := ⟨q3, 0, none⟩) HQX3.out.2 _, HXV3.out.far (p := ⟨q3, 0, none⟩) (fun e => HQX3.out.1 e.symm) _, by simpa using HQV3.out.set_ 0 (.slice Az2 l.length cz2), ?_, ?_⟩
          · obtain ⟨Ac, cc, hc0, hc1, hc2, hc3⟩ := HCVV3.out
            exact ⟨Ac, cc, hc0, hc1, hc2, (binds_avoid hc3 (slice_noint HQV3.out)).keep EBind.stays (keep_far (p := ⟨q3, 0, none⟩) (fun b h => h.2) _) (fun b h => by simpa using h.1)⟩
          · exact ⟨Az, cz, hz0, hz1, hz2, (nodes_avoid hz3 (slice_noint HQV3.out)).keep ETN.stays (keep_far (p := ⟨q3, 0, none⟩) (fun b h => h.2) _) (fun b h => by simpa using h.1)⟩
      · go_simp
        obtain ⟨q6, hq⟩ : ∃ q, v1.heap.size = q := ⟨_, rfl⟩
        obtain ⟨v6, hnw⟩ : ∃ x : World, v1.alloc (.cells #[.slice none 0 0] 24) = x := ⟨_, rfl⟩
        have hb3 : Below v1.heap.size v1 v6 := by rw [← hnw]; exact (Below.refl _ _).alloc (Nat.le_refl _) _
        have HQV6 : Hid (Blk v6 q6 24 #[.slice none 0 0]) := Lib.hid (by rw [← hnw]; exact Blk.new' hq.symm)
        have HQX6 : Hid (q6 ≠ w.heap.size ∧ w.heap.size ≤ q6) := Lib.hid (by have := HXV1.out.lt; omega)
        have HBV6 := Lib.hid (HBV1.out.trans (hb3.mono HBV1.out.size))
        have HXV6 := Lib.hid (HXV1.out.below hb3 HXV1.out.lt)
        have HCVV6 := Lib.hid (HCVV1.out.keep EBind.stays (Keep.below hb3 (fun b h => h)) (fun b h => Nat.lt_of_lt_of_le h hb3.size))
        clear HBV1 HXV1 HCVV1
        rw [hnw]
        try rw [hq]
        clear hnw hb3 hq
        refine hK.out _ _ (fun _ => HD2.out _ HXV6.out) ?_
        have hHeldV6 := HD2.out _ HXV6.out
        clear hK K
        try simp only [Act.put, List.setIfInBounds_toArray, List.set_cons_zero, List.set_cons_succ, Nat.zero_add]
        refine wpAnyY_one (i := 3) rfl (by kernel_rfl) (fun K hK => ?_)
        go_simp
        refine (HCPY.out _ HBV6.out).mono ?_
        rintro _ v7 ⟨zv7, rfl, hrC, hb3⟩
        obtain ⟨Az7, cz7, ez, ez1, ez2, ez3⟩ := hrC
        subst ez
        have HZVV7 : Hid (IsRow 3 ETN v7 (fun b => b < v7.heap.size) (.slice Az7 l.length cz7) l) := Lib.hid ⟨_, _, rfl, ez1, ez2, ez3.keep ETN.stays (Keep.refl _ _) (fun b h => h.2)⟩
        clear ez1 ez2 ez3
        have HBV7 := Lib.hid (HBV6.out.trans (hb3.mono HBV6.out.size))
        have HXV7 := Lib.hid (HXV6.out.below hb3 HXV6.out.lt)
        have HCVV7 := Lib.hid (HCVV6.out.keep EBind.stays (Keep.below hb3 (fun b h => h)) (fun b h => Nat.lt_of_lt_of_le h hb3.size))
        have HQV7 := Lib.hid (HQV6.out.below hb3 HQV6.out.lt)
        clear HBV6 HXV6 HCVV6 HQV6
        clear hb3
        refine hK.out _ _ (fun _ => HD2.out _ HXV7.out) ?_
        have hHeldV7 := HD2.out _ HXV7.out
        clear hK K
        try simp only [Act.put, List.setIfInBounds_toArray, List.set_cons_zero, List.set_cons_succ, Nat.zero_add]
        refine wpAnyY_one (i := 5) rfl (by kernel_rfl) (fun K hK => ?_)
        go_simp
        refine hK.out _ _ (fun _ => HD2.out _ HXV7.out) ?_
        clear hK K
        try simp only [Act.put, List.setIfInBounds_toArray, List.set_cons_zero, List.set_cons_succ, Nat.zero_add]
        refine wpAnyY_one0 (i := 6) rfl (by kernel_rfl) (by kernel_rfl) (fun K hK => ?_)
        have c0 := HQV7.out.cell 0; have f0 := HQV7.out.frozen 0; have hql := HQV7.out.lt
        simp at c0
        go_simp
        clear c0 f0 hql
        refine hK.out _ _ ?_
        clear hK K
        try simp only [Act.put, List.setIfInBounds_toArray, List.set_cons_zero, List.set_cons_succ, Nat.zero_add]
        refine wpAnyY_done (by kernel_rfl) ?_ _
        go_wp2_with fail
        go_meet
        case rel =>
          obtain ⟨Az, cz, hz0, hz1, hz2, hz3⟩ := HZVV7.out
          refine ⟨_, _, rfl, HBV7.out.setCell (p := ⟨q6, 0, none⟩) HQX6.out.2 _, HXV7.out.far (p := ⟨q6, 0, none⟩) (fun e => HQX6.out.1 e.symm) _, by simpa using HQV7.out.set_ 0 (.slice Az7 l.length cz7), ?_, ?_⟩
          · obtain ⟨Ac, cc, hc0, hc1, hc2, hc3⟩ := HCVV7.out
            exact ⟨Ac, cc, hc0, hc1, hc2, (binds_avoid hc3 (slice_noint HQV7.out)).keep EBind.stays (keep_far (p := ⟨q6, 0, none⟩) (fun b h => h.2) _) (fun b h => by simpa using h.1)⟩
          · exact ⟨Az, cz, hz0, hz1, hz2, (nodes_avoid hz3 (slice_noint HQV7.out)).keep ETN.stays (keep_far (p := ⟨q6, 0, none⟩) (fun b h => h.2) _) (fun b h => by simpa using h.1)⟩
    · go_simp
      obtain ⟨q10, hq⟩ : ∃ q, u.heap.size = q := ⟨_, rfl⟩
      obtain ⟨v10, hnw⟩ : ∃ x : World, u.alloc (.cells #[.slice none 0 0] 24) = x := ⟨_, rfl⟩
      have hb3 : Below u.heap.size u v10 := by rw [← hnw]; exact (Below.refl _ _).alloc (Nat.le_refl _) _
      have HQV10 : Hid (Blk v10 q10 24 #[.slice none 0 0]) := Lib.hid (by rw [← hnw]; exact Blk.new' hq.symm)
      have HQX10 : Hid (q10 ≠ w.heap.size ∧ w.heap.size ≤ q10) := Lib.hid (by have := HXU.out.lt; omega)
      have HBV10 := Lib.hid (HBU.out.trans (hb3.mono HBU.out.size))
      have HXV10 := Lib.hid (HXU.out.below hb3 HXU.out.lt)
      clear HBU HXU
      rw [hnw]
      try rw [hq]
      clear hnw hb3 hq
      refine hK.out _ _ (fun _ => HD2.out _ HXV10.out) ?_
      have hHeldV10 := HD2.out _ HXV10.out
      clear hK K
      try simp only [Act.put, List.setIfInBounds_toArray, List.set_cons_zero, List.set_cons_succ, Nat.zero_add]
      refine wpAnyY_one (i := 1) rfl (by kernel_rfl) (fun K hK => ?_)
      go_simp
      refine (HOWN.out _ HBV10.out).mono ?_
      rintro _ v11 ⟨cv11, rfl, hrC, hb3⟩
      have HCVV11 : Hid (IsRow 2 EBind v11 (fun b => b < v11.heap.size) cv11 bd) := Lib.hid (hrC.keep EBind.stays (Keep.refl _ _) (fun b h => h.2))
      clear hrC
      have HBV11 := Lib.hid (HBV10.out.trans (hb3.mono HBV10.out.size))
      have HXV11 := Lib.hid (HXV10.out.below hb3 HXV10.out.lt)
      have HQV11 := Lib.hid (HQV10.out.below hb3 HQV10.out.lt)
      clear HBV10 HXV10 HQV10
      clear hb3
      refine hK.out _ _ (fun _ => HD2.out _ HXV11.out) ?_
      have hHeldV11 := HD2.out _ HXV11.out
      clear hK K
      try simp only [Act.put, List.setIfInBounds_toArray, List.set_cons_zero, List.set_cons_succ, Nat.zero_add]
      refine wpAnyY_one (i := 3) rfl (by kernel_rfl) (fun K hK => ?_)
      go_simp
      refine (HCPY.out _ HBV11.out).mono ?_
      rintro _ v12 ⟨zv12, rfl, hrC, hb3⟩
      obtain ⟨Az12, cz12, ez, ez1, ez2, ez3⟩ := hrC
      subst ez
      have HZVV12 : Hid (IsRow 3 ETN v12 (fun b => b < v12.heap.size) (.slice Az12 l.length cz12) l) := Lib.hid ⟨_, _, rfl, ez1, ez2, ez3.keep ETN.stays (Keep.refl _ _) (fun b h => h.2)⟩
      clear ez1 ez2 ez3
      have HBV12 := Lib.hid (HBV11.out.trans (hb3.mono HBV11.out.size))
      have HXV12 := Lib.hid (HXV11.out.below hb3 HXV11.out.lt)
      have HQV12 := Lib.hid (HQV11.out.below hb3 HQV11.out.lt)
      have HCVV12 := Lib.hid (HCVV11.out.keep EBind.stays (Keep.below hb3 (fun b h => h)) (fun b h => Nat.lt_of_lt_of_le h hb3.size))
      clear HBV11 HXV11 HQV11 HCVV11
      clear hb3
      refine hK.out _ _ (fun _ => HD2.out _ HXV12.out) ?_
      have hHeldV12 := HD2.out _ HXV12.out
      clear hK K
      try simp only [Act.put, List.setIfInBounds_toArray, List.set_cons_zero, List.set_cons_succ, Nat.zero_add]
      refine wpAnyY_one (i := 5) rfl (by kernel_rfl) (fun K hK => ?_)
      go_simp
      refine hK.out _ _ (fun _ => HD2.out _ HXV12.out) ?_
      clear hK K
      try simp only [Act.put, List.setIfInBounds_toArray, List.set_cons_zero, List.set_cons_succ, Nat.zero_add]
      refine wpAnyY_one0 (i := 6) rfl (by kernel_rfl) (by kernel_rfl) (fun K hK => ?_)
      have c0 := HQV12.out.cell 0; have f0 := HQV12.out.frozen 0; have hql := HQV12.out.lt
      simp at c0
      go_simp
      clear c0 f0 hql
      refine hK.out _ _ ?_
      clear hK K
      try simp only [Act.put, List.setIfInBounds_toArray, List.set_cons_zero, List.set_cons_succ, Nat.zero_add]
      refine wpAnyY_done (by kernel_rfl) ?_ _
      go_wp2_with fail
      go_meet
      case rel =>
        obtain ⟨Az, cz, hz0, hz1, hz2, hz3⟩ := HZVV12.out
        refine ⟨_, _, rfl, HBV12.out.setCell (p := ⟨q10, 0, none⟩) HQX10.out.2 _, HXV12.out.far (p := ⟨q10, 0, none⟩) (fun e => HQX10.out.1 e.symm) _, by simpa using HQV12.out.set_ 0 (.slice Az12 l.length cz12), ?_, ?_⟩
        · obtain ⟨Ac, cc, hc0, hc1, hc2, hc3⟩ := HCVV12.out
          exact ⟨Ac, cc, hc0, hc1, hc2, (binds_avoid hc3 (slice_noint HQV12.out)).keep EBind.stays (keep_far (p := ⟨q10, 0, none⟩) (fun b h => h.2) _) (fun b h => by simpa using h.1)⟩
        · exact ⟨Az, cz, hz0, hz1, hz2, (nodes_avoid hz3 (slice_noint HQV12.out)).keep ETN.stays (keep_far (p := ⟨q10, 0, none⟩) (fun b h => h.2) _) (fun b h => by simpa using h.1)⟩
  case rest =>
    obtain ⟨q, zv, rfl, hb, hx, hq, hc, hzv⟩ := hcut
    have HB := Lib.hid hb; have HX := Lib.hid hx; have HQ := Lib.hid hq
    obtain ⟨A3, c3, rfl, k1, k2, k3⟩ := hc
    obtain ⟨A4, c4, rfl, k4, k5, k6⟩ := hzv
    have HK3 := Lib.hid k3; have HK6 := Lib.hid k6
    have HK := Lib.hid (And.intro (And.intro k1 k2) (And.intro k4 k5))
    have q0 := hq.cell 0
    have hql := hq.lt
    simp at q0
    have HAP := Lib.hid (uapply_any A3 c3 bd A4 c4 l _ _ (fun b h => h) k6 k3 k4 k5 k1 k2 (by omega) (fun t ht => (HZL.out.1 t ht).1) (fun x hx t ht => ⟨((HZ.out x hx).1 t ht).1, ((HZ.out x hx).1 t ht).2.1⟩))
    clear hb hx hq k1 k2 k3 k4 k5 k6
    go_wp2_with fail
    refine HAP.out.mono ?_
    rintro _ w5 ⟨y, rfl, hb5, hy⟩
    have HB5 := Lib.hid (HB.out.trans (hb5.mono HB.out.size))
    have HX5 := Lib.hid (HX.out.below hb5 HX.out.lt); have HQ5 := Lib.hid (HQ.out.below hb5 hql)
    have HK35 := Lib.hid (HK3.out.keep (F' := fun b => b < w5.heap.size) EBind.stays (Keep.below hb5 (fun b h => h)) (fun b h => Nat.lt_of_lt_of_le h hb5.size))
    have HK65 := Lib.hid (HK6.out.keep (F' := fun b => b < w5.heap.size) ETN.stays (Keep.below hb5 (fun b h => h)) (fun b h => Nat.lt_of_lt_of_le h hb5.size))
    obtain ⟨Ay, cy, rfl, y1, y2, y3⟩ := hy
    have HY := Lib.hid y3; have HYC := Lib.hid (And.intro y1 y2)
    have x0 := HX5.out.cell 0
    have hxl := HX5.out.lt
    simp at x0
    clear hb5 q0 hql y1 y2 y3 HAP HB HX HQ HK3 HK6
    obtain ⟨yl, hyl⟩ : ∃ q, (applyL bd l).length = q := ⟨_, rfl⟩
    have HYL := Lib.hid hyl
    (try rw [hyl])
    clear hyl
    obtain ⟨p6, hp6⟩ : ∃ q, w5.heap.size = q := ⟨_, rfl⟩
    obtain ⟨w6, hw6⟩ : ∃ x : World, w5.alloc (.cells #[.slice Ay yl cy] 24) = x := ⟨_, rfl⟩
    have hb6 : Below w5.heap.size w5 w6 := by rw [← hw6]; exact (Below.refl _ _).alloc (Nat.le_refl _) _
    have HB6 := Lib.hid (HB5.out.trans (hb6.mono HB5.out.size))
    have HX6 := Lib.hid (HX5.out.below hb6 hxl); have HQ6 := Lib.hid (HQ5.out.below hb6 HQ5.out.lt)
    have HY6 : Hid (Blk w6 p6 24 #[.slice Ay yl cy]) := Lib.hid (by rw [← hw6]; exact Blk.new' hp6.symm)
    have HK36 := Lib.hid (HK35.out.keep (F' := fun b => b < w6.heap.size) EBind.stays (Keep.below hb6 (fun b h => h)) (fun b h => Nat.lt_of_lt_of_le h hb6.size))
    have HK66 := Lib.hid (HK65.out.keep (F' := fun b => b < w6.heap.size) ETN.stays (Keep.below hb6 (fun b h => h)) (fun b h => Nat.lt_of_lt_of_le h hb6.size))
    have HYR6 := Lib.hid (HY.out.keep (F' := fun b => b < w6.heap.size) ETN.stays (Keep.below hb6 (fun b h => h)) (fun b h => Nat.lt_of_lt_of_le h hb6.size))
    have HRA := Lib.hid (rapply_any A2 c2 bd A c l w6 (fun b => b < w.heap.size) (fun b h => Nat.lt_of_lt_of_le h HB6.out.size) (HR.out.keep ETN.stays (Keep.below HB6.out (fun b h => h)) (fun _ h => h)) (HRB.out.keep EBind.stays (Keep.below HB6.out (fun b h => h)) (fun _ h => h)) a1 ha2 b1 hb2 (fun t ht => (HZL.out.1 t ht).1) (fun x hx t ht => ((HZ.out x hx).1 t ht).1))
    have HE6 : Hid (∃ z, w5.alloc (.cells #[.slice Ay yl cy] 24) = z) := Lib.hid ⟨_, rfl⟩
    clear hb6 x0 hxl HB5 HX5 HQ5 HK35 HK65 HY
    have x0 := HX6.out.cell 0
    have hxl := HX6.out.lt
    simp at x0
    go_wp2_with fail
    (try rw [hp6])
    (try rw [hw6])
    refine HRA.out.mono ?_
    rintro _ w7 ⟨z, rfl, hb7, hzr⟩
    have HB7 := Lib.hid (HB6.out.trans (hb7.mono HB6.out.size))
    have HX7 := Lib.hid (HX6.out.below hb7 hxl); have HQ7 := Lib.hid (HQ6.out.below hb7 HQ6.out.lt); have HY7 := Lib.hid (HY6.out.below hb7 HY6.out.lt)
    have HK37 := Lib.hid (HK36.out.keep (F' := fun b => b < w7.heap.size) EBind.stays (Keep.below hb7 (fun b h => h)) (fun b h => Nat.lt_of_lt_of_le h hb7.size))
    have HK67 := Lib.hid (HK66.out.keep (F' := fun b => b < w7.heap.size) ETN.stays (Keep.below hb7 (fun b h => h)) (fun b h => Nat.lt_of_lt_of_le h hb7.size))
    have HYR7 := Lib.hid (HYR6.out.keep (F' := fun b => b < w7.heap.size) ETN.stays (Keep.below hb7 (fun b h => h)) (fun b h => Nat.lt_of_lt_of_le h hb7.size))
    obtain ⟨Az, cz, rfl, z1, z2, z3⟩ := hzr
    have HZR := Lib.hid z3; have HZC := Lib.hid (And.intro z1 z2)
    clear hb7 x0 hxl hw6 hp6 HE6 z1 z2 z3 HB6 HX6 HQ6 HY6 HK36 HK66 HYR6 HRA
    rw [HYL.out]
    obtain ⟨p8, hp8⟩ : ∃ q, w7.heap.size = q := ⟨_, rfl⟩
    obtain ⟨w8, hw8⟩ : ∃ x : World, w7.alloc (.cells #[.slice Az yl cz] 24) = x := ⟨_, rfl⟩
    have hb8 : Below w7.heap.size w7 w8 := by rw [← hw8]; exact (Below.refl _ _).alloc (Nat.le_refl _) _
    have HB8 := Lib.hid (HB7.out.trans (hb8.mono HB7.out.size))
    have HX8 := Lib.hid (HX7.out.below hb8 HX7.out.lt); have HQ8 := Lib.hid (HQ7.out.below hb8 HQ7.out.lt); have HY8 := Lib.hid (HY7.out.below hb8 HY7.out.lt)
    have HZ8 : Hid (Blk w8 p8 24 #[.slice Az yl cz]) := Lib.hid (by rw [← hw8]; exact Blk.new' hp8.symm)
    have HLIFT := Lib.hid (fun (A : Option Addr) (ts : List TN) (x y : World) (h : RowOf 3 ETN x (fun b => b < x.heap.size) A ts) (hb : Below x.heap.size x y) => (h.keep ETN.stays (Keep.below hb (fun b h => h)) (fun b h => Nat.lt_of_lt_of_le h hb.size) : RowOf 3 ETN y (fun b => b < y.heap.size) A ts))
    have HK38 := Lib.hid (HK37.out.keep (F' := fun b => b < w8.heap.size) EBind.stays (Keep.below hb8 (fun b h => h)) (fun b h => Nat.lt_of_lt_of_le h hb8.size))
    have HK68 := Lib.hid (HLIFT.out _ _ _ _ HK67.out hb8)
    have HYR8 := Lib.hid (HLIFT.out _ _ _ _ HYR7.out hb8)
    have HZR8 := Lib.hid (HLIFT.out _ _ _ _ HZR.out hb8)
    have y0 := HY8.out.cell 0; have z0 := HZ8.out.cell 0
    have hyl := HY8.out.lt; have hzl := HZ8.out.lt
    simp at y0 z0
    have HAL := Lib.hid (alike_any (.slice Ay (applyL bd l).length cy) (.slice Az (applyL bd l).length cz) (applyL bd l) w8 ⟨Ay, cy, rfl, HYC.out.1, HYC.out.2, HYR8.out⟩ ⟨Az, cz, rfl, HZC.out.1, HZC.out.2, HZR8.out⟩)
    rw [HYL.out] at HAL
    clear hb8 HB7 HX7 HQ7 HY7 HK37 HK67 HYR7 HZR
    go_wp2_with fail
    (try rw [hp8])
    (try rw [hw8])
    refine HAL.out.mono ?_
    rintro _ w9 ⟨rfl, hb9⟩
    have HB9 := Lib.hid (HB8.out.trans (hb9.mono HB8.out.size))
    have HX9 := Lib.hid (HX8.out.below hb9 HX8.out.lt); have HQ9 := Lib.hid (HQ8.out.below hb9 HQ8.out.lt)
    have HK39 := Lib.hid (HK38.out.keep (F' := fun b => b < w9.heap.size) EBind.stays (Keep.below hb9 (fun b h => h)) (fun b h => Nat.lt_of_lt_of_le h hb9.size))
    have HK69 := Lib.hid (HLIFT.out _ _ _ _ HK68.out hb9)
    have HSM := Lib.hid (sameB_any A3 A2 c3 c2 bd w9 HK39.out (HRB.out.keep EBind.stays (Keep.below HB9.out (fun b h => h)) (fun b h => Nat.lt_of_lt_of_le h HB9.out.size)) HK.out.1.1 HK.out.1.2)
    clear hb9 y0 z0 hyl hzl hw8 hp8 HAL HB8 HX8 HQ8 HY8 HZ8 HK38 HK68 HYR8 HZR8
    have g1 : (applyE bd l == applyE bd l) = true := by simp
    go_wp2_with fail
    refine HSM.out.mono ?_
    rintro _ w10 ⟨rfl, hb10⟩
    have HB10 := Lib.hid (HB9.out.trans (hb10.mono HB9.out.size))
    have HX10 := Lib.hid (HX9.out.below hb10 HX9.out.lt); have HQ10 := Lib.hid (HQ9.out.below hb10 HQ9.out.lt)
    have HK610 := Lib.hid (HLIFT.out _ _ _ _ HK69.out hb10)
    have q0 := HQ10.out.cell 0; have x0 := HX10.out.cell 0
    have hql := HQ10.out.lt; have hxl := HX10.out.lt
    simp at q0 x0
    have HAL2 := Lib.hid (alike_any (.slice A4 l.length c4) (.slice A l.length c) l w10 ⟨A4, c4, rfl, HK.out.2.1, HK.out.2.2, HK610.out⟩ ⟨A, c, rfl, a1, ha2, HR.out.keep ETN.stays (Keep.below HB10.out (fun b h => h)) (fun b h => Nat.lt_of_lt_of_le h HB10.out.size)⟩)
    clear hb10 HSM HB9 HX9 HQ9 HK39 HK69
    go_wp2_with fail
    refine HAL2.out.mono ?_
    rintro _ w11 ⟨rfl, hb11⟩
    have HB11 := Lib.hid (HB10.out.trans (hb11.mono HB10.out.size))
    clear hb11 q0 x0 hql hxl g1
    go_wp2
    go_ret
    exact ⟨rfl, HB11.out⟩
end Go.Proofs.Ytgcbnndbeoekgaa
