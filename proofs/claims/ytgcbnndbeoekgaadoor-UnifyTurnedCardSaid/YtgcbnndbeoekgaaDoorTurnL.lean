import Derived.Test.YtgcbnndbeoekgaaDoorFoldsU
import Derived.Test.YtgcbnndbeoekgaaDoorTurnP
import Derived.Test.YtgcbnndbeoekgaaDoorRegY
set_option linter.unusedSimpArgs false
set_option linter.unusedVariables false
/- the law: pairs in another order, and with their terms turned about, have the same bound, or none again; given that awake answers true -/
namespace Go.Proofs.YtgcbnndbeoekgaaDoor
open Go Go.RowKit Go.Maps

theorem pair_info : (Tryd.prog.info? 45).map (fun i => (i.zero, i.size, i.bytes)) = some (some (.agg #[.slice none 0 0, .slice none 0 0]), 2, 48) := by kernel_rfl
theorem vals_one {w : World} {F : Nat → Prop} : ∀ {M : List PR}, (∀ x ∈ M, IsRow 3 ETN w F x.1.1 x.2.1 ∧ IsRow 3 ETN w F x.1.2 x.2.2) → ∀ u ∈ vals M, u.oneCell' = true
  | [], _, u, hu => by cases hu
  | x :: r, h, u, hu => by
    have hu : u ∈ x.1.1 :: x.1.2 :: vals r := hu
    obtain ⟨⟨A1, c1, e1, _⟩, ⟨A2, c2, e2, _⟩⟩ := h x (List.mem_cons_self ..)
    rcases List.mem_cons.1 hu with e | hu
    · rw [e, e1]; rfl
    · rcases List.mem_cons.1 hu with e | hu
      · rw [e, e2]; rfl
      · exact vals_one (fun y hy => h y (List.mem_cons_of_mem _ hy)) u hu
set_option maxRecDepth 100000 in
set_option maxHeartbeats 16000000 in
theorem turnL_any (HAW : AwakeOk) (v0 : Value) (ps : List (List TN × List TN)) (v1 : Value) (ts : List Int) (w : World) (hr0 : IsRow 2 EPair w (fun b => b < w.heap.size) v0 ps) (hz : ∀ p ∈ ps, TermAll p.1 ∧ TermAll p.2) (hx : IsRow 1 EInt w (fun b => b < w.heap.size) v1 ts) (hzx : ∀ t ∈ ts, InI t) (ht : Tab w) :
    Calls Tryd.prog 7 #[v0, v1] w fun e w' => e = .returned (.bool true) ∧ Below w.heap.size w w' := by
  obtain ⟨A, c, rfl, b1, b2, hr⟩ := hr0
  obtain ⟨S, k, rfl, x1, x2, x3⟩ := hx
  have HR := Lib.hid hr; have HZ := Lib.hid hz; have HTB := Lib.hid ht; have HX := Lib.hid x3; have HZX := Lib.hid hzx; have HXC := Lib.hid (And.intro x1 x2)
  have HC : Hid (ps.length ≤ c ∧ c ≤ maxLen) := Lib.hid ⟨b1, b2⟩
  have HLB : Hid (∀ n ∈ pairLens ps 1000, n ≤ 140737488355328) := Lib.hid (fun n hn => by
    obtain ⟨p, hp, h⟩ := List.mem_flatMap.1 hn
    have hp := hz p (List.mem_of_mem_take hp)
    have h1 := hp.1.2; have h2 := hp.2.2
    simp only [List.mem_cons, List.not_mem_nil, or_false] at h
    rcases h with rfl | rfl <;> omega)
  have HLL : Hid ((pairLens ps 1000).length ≤ 4000) := Lib.hid (by have := pairLens_len ps 1000; omega)
  have HSM : Hid (∀ p ∈ ps, (∀ t ∈ p.1, t.name.size ≤ 9223372036854775807) ∧ ∀ t ∈ p.2, t.name.size ≤ 9223372036854775807) := Lib.hid (fun p hp => ⟨fun t ht => ((HZ.out p hp).1.1 t ht).1, fun t ht => ((HZ.out p hp).2.1 t ht).1⟩)
  obtain ⟨M0, hm1, hm2, hm3⟩ := pairs_vals hr
  have HM0 := Lib.hid (And.intro hm1 (And.intro hm2 hm3))
  have HNIL : Hid (A = none → ps.length = 0) := Lib.hid (fun e => by rw [e] at hr; rw [hr.none_nil]; rfl)
  have HAD : Hid (∀ ad, A = some ad → ps.length ≠ 0 → ∃ b off, ad = ⟨b, off, none⟩ ∧ b < w.heap.size) := Lib.hid (fun ad e hne => by
    obtain ⟨b, off, e2, hb⟩ := hr.1 (fun h0 => hne (by rw [h0]; rfl))
    rw [e] at e2
    injection e2 with e2
    exact ⟨b, off, e2, hb⟩)
  unfold maxLen at b2 x2
  obtain ⟨n, hn⟩ : ∃ n, ps.length = n := ⟨_, rfl⟩
  have HN := Lib.hid hn
  obtain ⟨m, hm⟩ : ∃ m, ts.length = m := ⟨_, rfl⟩
  have HM := Lib.hid hm
  have HML : Hid (M0.length = n) := Lib.hid (by rw [← hn, ← hm1, List.length_map])
  rw [hn] at b1 ⊢
  rw [hm] at x1 ⊢
  clear hr hz hn ht hm hzx x3 hm1 hm2 hm3
  go_enter Tryd.func7, Tryd.ntmps7
  go_wp2_with fail
  refine (HAW _ HTB.out).mono ?_
  rintro _ w0 ⟨rfl, hb⟩
  have HB_w : Hid (Below w.heap.size w w0) := Lib.hid hb
  clear hb HAW
  have HOF := Lib.hid (of_any A c ps w0 (fun b => b < w.heap.size) (fun b h => Nat.lt_of_lt_of_le h HB_w.out.size) (HR.out.keep EPair.stays (Keep.below HB_w.out (fun b h => h)) (fun _ h => h)) HC.out.1 HC.out.2)
  rw [HN.out] at HOF
  by_cases h100 : 100 < n
  · have h100' : (100 : Int) < n := by omega
    go_wp2_with fail
    go_ret
    exact ⟨rfl, HB_w.out⟩
  have h100' : ¬ (100 : Int) < n := by omega
  go_wp2_with fail
  refine HOF.out.mono ?_
  rintro _ w1 ⟨v1, rfl, hv1, hb⟩
  replace HB_w : Hid (Below w.heap.size w w1) := Lib.hid (HB_w.out.trans (hb.mono HB_w.out.size))
  have HV1 := Lib.hid (wide_any v1 (pairLens ps 1000) w1 _ hv1 HLB.out HLL.out)
  clear hv1 hb HOF HLB HLL
  by_cases hw : 400 < (pairLens ps 1000).sum
  · have HD : Hid (decide (400 < (pairLens ps 1000).sum) = true) := Lib.hid (decide_eq_true hw)
    rw [HD.out] at HV1
    clear hw
    go_wp2_with (go_at_call 16; refine HV1.out.mono ?_; rintro e w' ⟨rfl, rfl⟩)
    go_ret
    exact ⟨rfl, HB_w.out⟩
  have HD : Hid (decide (400 < (pairLens ps 1000).sum) = false) := Lib.hid (decide_eq_false hw)
  rw [HD.out] at HV1
  have HT : Hid (Tried ps) := Lib.hid (fun _ => ⟨by omega, .inl (by rw [HN.out]; omega)⟩)
  clear hw
  have HMW : Hid ((w1.alloc (.cells #[] 45)).ownsRow w.heap.size 45 2 (.slice (some ⟨w1.heap.size, 0, none⟩) 0 0) 0 []) := Lib.hid (World.ownsRow_made (base := w.heap.size) (e := 45) (size := 2) w1 #[] 0 HB_w.out.size (Nat.zero_le _) (by simp))
  have HBA : Hid (Below w.heap.size w (w1.alloc (.cells #[] 45))) := Lib.hid (HB_w.out.alloc HB_w.out.size _)
  have HCL : Hid (∀ ad, A = some ad → ∀ j z, (vals M0)[j]? = some z → (w1.alloc (.cells #[] 45)).cell? (ad.add j) = some z) := Lib.hid (fun ad e j z hz => by
    have hne : ps.length ≠ 0 := fun h0 => by
      have h1 := HML.out
      have h2 := vals_len M0
      have h3 := HN.out
      have h4 : j < (vals M0).length := by
        rcases Nat.lt_or_ge j (vals M0).length with h | h
        · exact h
        · rw [List.getElem?_eq_none h] at hz; cases hz
      omega
    obtain ⟨b, off, rfl, hb⟩ := HAD.out ad e hne
    have h1 := HM0.out.2.2 b off e j z hz
    rw [add_some]
    exact (HBA.out.cell (p := ⟨b, off + j, none⟩) hb).trans h1)
  have HLN : Hid ((vals M0).length = n * 2) := Lib.hid (by rw [vals_len, HML.out])
  have HONE := Lib.hid (vals_one HM0.out.2.1)
  have HSZ : Hid (w.heap.size ≤ (w1.alloc (.cells #[] 45)).heap.size) := Lib.hid HBA.out.size
  rw [HN.out] at HNIL
  go_upto_region 5 with (go_at_call 16; refine HV1.out.mono ?_; rintro e w' ⟨rfl, rfl⟩)
  clear HV1 HD
  go_wp2_with (at_builtin; refine wpList_append_from _ rfl (.tmp 25) (.tmp 26) 35 rfl w.heap.size 45 Tryd.underlying35 pair_info rfl (by omega) (.slice (some ⟨w1.heap.size, 0, none⟩) 0 0) 0 [] rfl HMW.out A n c (vals M0) rfl HLN.out HNIL.out HCL.out HONE.out ?a1 ?a2 ?a3 ?a4)
  try (case a1 => unfold maxLen; omega)
  try (case a2 => omega)
  try (case a3 => exact HSZ.out)
  case a4 =>
  intro A7 c7 w7 hown7 hg7 _
  (try simp only [Nat.zero_add, List.nil_append] at hown7)
  (try simp only [Nat.zero_add])
  have hb7 : Below w.heap.size w w7 := HBA.out.grown hg7 HBA.out.size (fun k e => (HMW.out.lt k e).1)
  have HTM : Hid (TurnM w w7 ps (.slice A7 n c7) M0) := Lib.hid ⟨by rw [HML.out]; exact hown7, HM0.out.2.1, by rw [HM0.out.1]; exact Like.refl _⟩
  have HBW := Lib.hid hb7
  clear hown7 hg7 hb7 HMW HBA HCL HLN HONE HSZ HB_w HM0 HML
  go_upto_region 7 with fail
  go_loopg [6] 300 (fun g s6 wx => ∃ (i : Nat) (M : List PR), s6 = .int .i64 i ∧ g = 300 - i ∧ i ≤ 300 ∧ Below w.heap.size w wx ∧ TurnM w wx ps (.slice A7 n c7) M)
  case atStart => exact ⟨0, M0, rfl, rfl, Nat.zero_le _, HBW.out, HTM.out⟩
  case round =>
    obtain ⟨i, M, rfl, rfl, hi, hb, htm⟩ := hrel
    have i0 : (0 : Int) ≤ i := by omega
    have HTM := Lib.hid htm
    have HB_w := Lib.hid hb
    have HMN : Hid (M.length = n) := Lib.hid htm.caps.1.symm
    clear hb htm
    by_cases hi1 : i < m
    rotate_left 1
    · have hi1' : ¬ (i : Int) < m := by omega
      have HS := Lib.hid (usolve_any A c ps wr (fun b => b < w.heap.size) (fun b h => Nat.lt_of_lt_of_le h HB_w.out.size) (HR.out.keep EPair.stays (Keep.below HB_w.out (fun b h => h)) (fun _ h => h)) HC.out.1 HC.out.2 HSM.out HT.out.few)
      rw [HN.out] at HS
      go_wp2_with fail
      refine HS.out.mono ?_
      rintro _ w8 ⟨err, at_, out, v, hsay, rfl, hrow, hb⟩
      have HSAY := Lib.hid hsay
      have HTM8 := Lib.hid (HTM.out.below hb)
      replace HB_w : Hid (Below w.heap.size w w8) := Lib.hid (HB_w.out.trans (hb.mono HB_w.out.size))
      obtain ⟨Ad, cd, rfl, y1, y2, y3⟩ := hrow
      have HDR : Hid (RowOf 2 EBind w8 (fun b => b < w8.heap.size) Ad out) := Lib.hid (y3.keep EBind.stays (Keep.refl _ _) (fun b h => h.2)); have HDC := Lib.hid (And.intro y1 y2)
      have HQL : Hid ((M.map (·.2)).length = n) := Lib.hid (by rw [List.length_map]; exact HMN.out)
      have HCP := Lib.hid HTM8.out.caps
      have HS2 := Lib.hid (usolve_any A7 c7 (M.map (·.2)) w8 (fun b => b < w8.heap.size) (fun b h => h) (by have h := HTM8.out; rw [← HMN.out] at h; exact h.row HB_w.out) (by rw [HQL.out, ← HMN.out]; exact HCP.out.2.1) HCP.out.2.2 (fun p hp => by
          rcases (HTM8.out.like.has p).2 (.inl hp) with h | h
          · exact HSM.out _ h
          · exact ⟨(HSM.out _ h).2, (HSM.out _ h).1⟩) (HTM8.out.like.tried (by rw [HN.out]; omega) HT.out).few)
      rw [HQL.out] at HS2
      clear hsay hb y1 y2 y3 HS
      go_wp2_with fail
      refine HS2.out.mono ?_
      rintro _ w9 ⟨err2, at2, out2, v2, hsay2, rfl, hrow2, hb⟩
      replace HB_w : Hid (Below w.heap.size w w9) := Lib.hid (HB_w.out.trans (hb.mono HB_w.out.size))
      have HB_w8 : Hid (Below w8.heap.size w8 w9) := Lib.hid hb
      obtain ⟨A2, c2, rfl, t1, t2, t3⟩ := hrow2
      obtain ⟨hee, hoo, hok⟩ := HTM8.out.like.says (by rw [HN.out]; omega) HSAY.out hsay2
      subst hoo
      have HEQ := Lib.hid (equalU_any Ad A2 cd c2 out w9 (HDR.out.keep EBind.stays (Keep.below HB_w8.out (fun b h => h)) (fun b h => Nat.lt_of_lt_of_le h HB_w8.out.size)) (t3.keep EBind.stays (Keep.refl _ _) (fun b h => h.2)) HDC.out.1 HDC.out.2 hok (Tab.below HTB.out HB_w.out))
      clear hsay2 hb t1 t2 t3 hok HS2
      rcases hee with ⟨e1, e2⟩ | ⟨e1, e2⟩
      · subst e1; subst e2
        go_wp2_with fail
        refine HEQ.out.mono ?_
        rintro _ wz ⟨rfl, hb⟩
        replace HB_w : Hid (Below w.heap.size w wz) := Lib.hid (HB_w.out.trans (hb.mono HB_w.out.size))
        replace HB_w8 : Hid (Below w8.heap.size w8 wz) := Lib.hid (HB_w8.out.trans (hb.mono HB_w8.out.size))
        clear hb HEQ
        go_wp2
        go_ret
        exact ⟨rfl, HB_w.out⟩
      · have e1' : (err == 0) = false := beq_eq_false_iff_ne.2 e1
        have e2' : (err2 == 0) = false := beq_eq_false_iff_ne.2 e2
        clear e1 e2
        go_wp2_with fail
        refine HEQ.out.mono ?_
        rintro _ wz ⟨rfl, hb⟩
        replace HB_w : Hid (Below w.heap.size w wz) := Lib.hid (HB_w.out.trans (hb.mono HB_w.out.size))
        replace HB_w8 : Hid (Below w8.heap.size w8 wz) := Lib.hid (HB_w8.out.trans (hb.mono HB_w8.out.size))
        clear hb HEQ
        go_wp2
        go_ret
        exact ⟨rfl, HB_w.out⟩
    have hi1' : (i : Int) < m := by omega
    by_cases hi2 : i < 300
    rotate_left 1
    · have hi2' : ¬ (i : Int) < 300 := by omega
      have HS := Lib.hid (usolve_any A c ps wr (fun b => b < w.heap.size) (fun b h => Nat.lt_of_lt_of_le h HB_w.out.size) (HR.out.keep EPair.stays (Keep.below HB_w.out (fun b h => h)) (fun _ h => h)) HC.out.1 HC.out.2 HSM.out HT.out.few)
      rw [HN.out] at HS
      go_wp2_with fail
      refine HS.out.mono ?_
      rintro _ w8 ⟨err, at_, out, v, hsay, rfl, hrow, hb⟩
      have HSAY := Lib.hid hsay
      have HTM8 := Lib.hid (HTM.out.below hb)
      replace HB_w : Hid (Below w.heap.size w w8) := Lib.hid (HB_w.out.trans (hb.mono HB_w.out.size))
      obtain ⟨Ad, cd, rfl, y1, y2, y3⟩ := hrow
      have HDR : Hid (RowOf 2 EBind w8 (fun b => b < w8.heap.size) Ad out) := Lib.hid (y3.keep EBind.stays (Keep.refl _ _) (fun b h => h.2)); have HDC := Lib.hid (And.intro y1 y2)
      have HQL : Hid ((M.map (·.2)).length = n) := Lib.hid (by rw [List.length_map]; exact HMN.out)
      have HCP := Lib.hid HTM8.out.caps
      have HS2 := Lib.hid (usolve_any A7 c7 (M.map (·.2)) w8 (fun b => b < w8.heap.size) (fun b h => h) (by have h := HTM8.out; rw [← HMN.out] at h; exact h.row HB_w.out) (by rw [HQL.out, ← HMN.out]; exact HCP.out.2.1) HCP.out.2.2 (fun p hp => by
          rcases (HTM8.out.like.has p).2 (.inl hp) with h | h
          · exact HSM.out _ h
          · exact ⟨(HSM.out _ h).2, (HSM.out _ h).1⟩) (HTM8.out.like.tried (by rw [HN.out]; omega) HT.out).few)
      rw [HQL.out] at HS2
      clear hsay hb y1 y2 y3 HS
      go_wp2_with fail
      refine HS2.out.mono ?_
      rintro _ w9 ⟨err2, at2, out2, v2, hsay2, rfl, hrow2, hb⟩
      replace HB_w : Hid (Below w.heap.size w w9) := Lib.hid (HB_w.out.trans (hb.mono HB_w.out.size))
      have HB_w8 : Hid (Below w8.heap.size w8 w9) := Lib.hid hb
      obtain ⟨A2, c2, rfl, t1, t2, t3⟩ := hrow2
      obtain ⟨hee, hoo, hok⟩ := HTM8.out.like.says (by rw [HN.out]; omega) HSAY.out hsay2
      subst hoo
      have HEQ := Lib.hid (equalU_any Ad A2 cd c2 out w9 (HDR.out.keep EBind.stays (Keep.below HB_w8.out (fun b h => h)) (fun b h => Nat.lt_of_lt_of_le h HB_w8.out.size)) (t3.keep EBind.stays (Keep.refl _ _) (fun b h => h.2)) HDC.out.1 HDC.out.2 hok (Tab.below HTB.out HB_w.out))
      clear hsay2 hb t1 t2 t3 hok HS2
      rcases hee with ⟨e1, e2⟩ | ⟨e1, e2⟩
      · subst e1; subst e2
        go_wp2_with fail
        refine HEQ.out.mono ?_
        rintro _ wz ⟨rfl, hb⟩
        replace HB_w : Hid (Below w.heap.size w wz) := Lib.hid (HB_w.out.trans (hb.mono HB_w.out.size))
        replace HB_w8 : Hid (Below w8.heap.size w8 wz) := Lib.hid (HB_w8.out.trans (hb.mono HB_w8.out.size))
        clear hb HEQ
        go_wp2
        go_ret
        exact ⟨rfl, HB_w.out⟩
      · have e1' : (err == 0) = false := beq_eq_false_iff_ne.2 e1
        have e2' : (err2 == 0) = false := beq_eq_false_iff_ne.2 e2
        clear e1 e2
        go_wp2_with fail
        refine HEQ.out.mono ?_
        rintro _ wz ⟨rfl, hb⟩
        replace HB_w : Hid (Below w.heap.size w wz) := Lib.hid (HB_w.out.trans (hb.mono HB_w.out.size))
        replace HB_w8 : Hid (Below w8.heap.size w8 wz) := Lib.hid (HB_w8.out.trans (hb.mono HB_w8.out.size))
        clear hb HEQ
        go_wp2
        go_ret
        exact ⟨rfl, HB_w.out⟩
    have hi2' : (i : Int) < 300 := by omega
    by_cases hi3 : 0 < n
    rotate_left 1
    · have hi3' : ¬ (0 : Int) < n := by omega
      have HS := Lib.hid (usolve_any A c ps wr (fun b => b < w.heap.size) (fun b h => Nat.lt_of_lt_of_le h HB_w.out.size) (HR.out.keep EPair.stays (Keep.below HB_w.out (fun b h => h)) (fun _ h => h)) HC.out.1 HC.out.2 HSM.out HT.out.few)
      rw [HN.out] at HS
      go_wp2_with fail
      refine HS.out.mono ?_
      rintro _ w8 ⟨err, at_, out, v, hsay, rfl, hrow, hb⟩
      have HSAY := Lib.hid hsay
      have HTM8 := Lib.hid (HTM.out.below hb)
      replace HB_w : Hid (Below w.heap.size w w8) := Lib.hid (HB_w.out.trans (hb.mono HB_w.out.size))
      obtain ⟨Ad, cd, rfl, y1, y2, y3⟩ := hrow
      have HDR : Hid (RowOf 2 EBind w8 (fun b => b < w8.heap.size) Ad out) := Lib.hid (y3.keep EBind.stays (Keep.refl _ _) (fun b h => h.2)); have HDC := Lib.hid (And.intro y1 y2)
      have HQL : Hid ((M.map (·.2)).length = n) := Lib.hid (by rw [List.length_map]; exact HMN.out)
      have HCP := Lib.hid HTM8.out.caps
      have HS2 := Lib.hid (usolve_any A7 c7 (M.map (·.2)) w8 (fun b => b < w8.heap.size) (fun b h => h) (by have h := HTM8.out; rw [← HMN.out] at h; exact h.row HB_w.out) (by rw [HQL.out, ← HMN.out]; exact HCP.out.2.1) HCP.out.2.2 (fun p hp => by
          rcases (HTM8.out.like.has p).2 (.inl hp) with h | h
          · exact HSM.out _ h
          · exact ⟨(HSM.out _ h).2, (HSM.out _ h).1⟩) (HTM8.out.like.tried (by rw [HN.out]; omega) HT.out).few)
      rw [HQL.out] at HS2
      clear hsay hb y1 y2 y3 HS
      go_wp2_with fail
      refine HS2.out.mono ?_
      rintro _ w9 ⟨err2, at2, out2, v2, hsay2, rfl, hrow2, hb⟩
      replace HB_w : Hid (Below w.heap.size w w9) := Lib.hid (HB_w.out.trans (hb.mono HB_w.out.size))
      have HB_w8 : Hid (Below w8.heap.size w8 w9) := Lib.hid hb
      obtain ⟨A2, c2, rfl, t1, t2, t3⟩ := hrow2
      obtain ⟨hee, hoo, hok⟩ := HTM8.out.like.says (by rw [HN.out]; omega) HSAY.out hsay2
      subst hoo
      have HEQ := Lib.hid (equalU_any Ad A2 cd c2 out w9 (HDR.out.keep EBind.stays (Keep.below HB_w8.out (fun b h => h)) (fun b h => Nat.lt_of_lt_of_le h HB_w8.out.size)) (t3.keep EBind.stays (Keep.refl _ _) (fun b h => h.2)) HDC.out.1 HDC.out.2 hok (Tab.below HTB.out HB_w.out))
      clear hsay2 hb t1 t2 t3 hok HS2
      rcases hee with ⟨e1, e2⟩ | ⟨e1, e2⟩
      · subst e1; subst e2
        go_wp2_with fail
        refine HEQ.out.mono ?_
        rintro _ wz ⟨rfl, hb⟩
        replace HB_w : Hid (Below w.heap.size w wz) := Lib.hid (HB_w.out.trans (hb.mono HB_w.out.size))
        replace HB_w8 : Hid (Below w8.heap.size w8 wz) := Lib.hid (HB_w8.out.trans (hb.mono HB_w8.out.size))
        clear hb HEQ
        go_wp2
        go_ret
        exact ⟨rfl, HB_w.out⟩
      · have e1' : (err == 0) = false := beq_eq_false_iff_ne.2 e1
        have e2' : (err2 == 0) = false := beq_eq_false_iff_ne.2 e2
        clear e1 e2
        go_wp2_with fail
        refine HEQ.out.mono ?_
        rintro _ wz ⟨rfl, hb⟩
        replace HB_w : Hid (Below w.heap.size w wz) := Lib.hid (HB_w.out.trans (hb.mono HB_w.out.size))
        replace HB_w8 : Hid (Below w8.heap.size w8 wz) := Lib.hid (HB_w8.out.trans (hb.mono HB_w8.out.size))
        clear hb HEQ
        go_wp2
        go_ret
        exact ⟨rfl, HB_w.out⟩
    have hi3' : (0 : Int) < n := by omega
    have hnz : ((n : Int) == 0) = false := beq_eq_false_iff_ne.2 (by omega)
    obtain ⟨kk, hkk⟩ : ∃ z, i % n = z := ⟨_, rfl⟩
    have hkl : kk < n := by rw [← hkk]; exact Nat.mod_lt _ hi3
    have HKK : Hid (((i : Int) % (n : Int)) = (kk : Int)) := Lib.hid (by rw [← hkk]; rfl)
    have HIT : Hid (i < ts.length) := Lib.hid (by rw [HM.out]; exact hi1)
    obtain ⟨b, off, rfl, hbF, d0⟩ := ints_at HX.out HIT.out
    have d0 := (HB_w.out.cell (p := ⟨b, off + i, none⟩) hbF).trans d0
    have HTI := Lib.hid (HZX.out _ (List.getElem_mem HIT.out))
    obtain ⟨t, htt⟩ : ∃ z, ts[i]'HIT.out = z := ⟨_, rfl⟩
    rw [htt] at d0 HTI
    obtain ⟨q, hq⟩ : ∃ z, Int.tmod t (n : Int) = z := ⟨_, rfl⟩
    have HQ := Lib.hid hq
    clear hkk htt hq
    go_upto_region 10 with fail
    rw [HKK.out]
    go_upto_region 11 with fail
    rw [HQ.out]
    have hq1 : q < (n : Int) := by rw [← HQ.out]; exact Int.tmod_lt_of_pos _ (by omega)
    have hq2 : -(n : Int) < q := by
      have h := Int.tmod_lt_of_pos (-t) (b := (n : Int)) (by omega)
      rw [Int.neg_tmod] at h
      rw [← HQ.out]; omega
    obtain ⟨g, hA, hg1, hg2⟩ := (show TurnM w wr ps (.slice A7 M.length c7) M by rw [HMN.out]; exact HTM.out).addr (by rw [HMN.out]; exact hi3)
    subst hA
    have HTG : Hid (TurnM w wr ps (.slice (some ⟨g, 0, none⟩) M.length c7) M) := Lib.hid (by rw [HMN.out]; exact HTM.out)
    clear d0 HTM
    obtain ⟨nk, hnk⟩ : ∃ z : Nat, z = q.natAbs := ⟨_, rfl⟩
    have hnl : nk < n := by omega
    have HNK := Lib.hid hnk
    clear hnk
    by_cases hneg : q < 0
    rotate_left 1
    · have hneg' : ¬ q < 0 := hneg
      obtain rfl : q = (nk : Int) := by have := HNK.out; omega
      clear HNK hq1 hq2
      have HB_wr := Lib.hid HB_w.out
      have HMML : Hid (M.length = n) := Lib.hid (by first | exact HMN.out | (rw [List.length_set]; exact HMN.out))
      have HKL : Hid (kk < M.length ∧ nk < M.length) := Lib.hid (by rw [HMML.out]; exact ⟨hkl, hnl⟩)
      obtain ⟨⟨Aa, ca, ea, _⟩, ⟨Ab, cb, eb, _⟩⟩ := HTG.out.rows _ (List.getElem_mem HKL.out.1)
      obtain ⟨⟨Ac, cc, ec, _⟩, ⟨Ae, ce, ee, _⟩⟩ := HTG.out.rows _ (List.getElem_mem HKL.out.2)
      obtain ⟨q0, q1, q2, q3⟩ := HTG.out.cells HKL.out.1
      obtain ⟨p0, p1, p2, p3⟩ := HTG.out.cells HKL.out.2
      rw [ea] at q0; rw [eb] at q1; rw [ec] at p0; rw [ee] at p1
      generalize (M[kk]'HKL.out.1).2.1.length = na at *
      generalize (M[kk]'HKL.out.1).2.2.length = nb at *
      generalize (M[nk]'HKL.out.2).2.1.length = nc at *
      generalize (M[nk]'HKL.out.2).2.2.length = ne at *
      have HEE := Lib.hid (And.intro ea (And.intro eb (And.intro ec ee)))
      clear ea eb ec ee
      have HSW := Lib.hid (HTG.out.swap HKL.out.1 HKL.out.2)
      rw [HEE.out.1, HEE.out.2.1, HEE.out.2.2.1, HEE.out.2.2.2] at HSW
      have HN0 := Lib.hid (town_set (town_set HTG.out.own (i := kk * 2) (by have := HKL.out.1; omega) (.slice Ac nc cc)) (i := kk * 2 + 1) (by have := HKL.out.1; omega) (.slice Ae ne ce))
      go_upto_region 14 with fail
      obtain ⟨u, hu⟩ : ∃ u : World, wr.drew = u := ⟨_, rfl⟩
      have HUE := Lib.hid hu
      have q0 : u.cell? ⟨g, kk * 2, none⟩ = some (.slice Aa na ca) := by rw [← hu]; exact q0
      have q1 : u.cell? ⟨g, kk * 2 + 1, none⟩ = some (.slice Ab nb cb) := by rw [← hu]; exact q1
      have p0 : u.cell? ⟨g, nk * 2, none⟩ = some (.slice Ac nc cc) := by rw [← hu]; exact p0
      have p1 : u.cell? ⟨g, nk * 2 + 1, none⟩ = some (.slice Ae ne ce) := by rw [← hu]; exact p1
      have q2 : u.frozen? ⟨g, kk * 2, none⟩ = false := by rw [← hu]; exact q2
      have q3 : u.frozen? ⟨g, kk * 2 + 1, none⟩ = false := by rw [← hu]; exact q3
      refine wp_region_Y (S := (fun w' : World => w'.cell? ⟨g, kk * 2, none⟩ = some (.slice Aa na ca) ∧ w'.cell? ⟨g, kk * 2 + 1, none⟩ = some (.slice Ab nb cb) ∧ w'.cell? ⟨g, nk * 2, none⟩ = some (.slice Ac nc cc) ∧ w'.cell? ⟨g, nk * 2 + 1, none⟩ = some (.slice Ae ne ce) ∧ True)) 13 (by kernel_rfl) (by rw [hu]; exact ⟨q0, q1, p0, p1, trivial⟩) (fun hHeld => ?_)
      rw [hu] at hHeld ⊢
      clear hu
      refine wpAnyY_take0 (i := 2) (v := ?_) rfl (by kernel_rfl) (by kernel_rfl) (by kernel_rfl) (by kernel_rfl) (fun _ _ _ h => h) (Or.inl ⟨by rfl, ?_⟩) ?_
      rotate_left 1
      · (intro w' _; go_simp); try with_reducible rfl
      try simp only [Act.put, List.setIfInBounds_toArray, List.set_cons_zero, List.set_cons_succ, Nat.zero_add]
      refine wpAnyY_take0 (i := 3) (v := ?_) rfl (by kernel_rfl) (by kernel_rfl) (by kernel_rfl) (by kernel_rfl) (fun _ _ _ h => h) (Or.inl ⟨by rfl, ?_⟩) ?_
      rotate_left 1
      · (intro w' _; go_simp); try with_reducible rfl
      try simp only [Act.put, List.setIfInBounds_toArray, List.set_cons_zero, List.set_cons_succ, Nat.zero_add]
      refine wpAnyY_take0 (i := 8) (v := ?_) rfl (by kernel_rfl) (by kernel_rfl) (by kernel_rfl) (by kernel_rfl) (fun _ _ _ h => h) (Or.inl ⟨by rfl, ?_⟩) ?_
      rotate_left 1
      · (intro w' _; go_simp); try with_reducible rfl
      try simp only [Act.put, List.setIfInBounds_toArray, List.set_cons_zero, List.set_cons_succ, Nat.zero_add]
      refine wpAnyY_take0 (i := 9) (v := ?_) rfl (by kernel_rfl) (by kernel_rfl) (by kernel_rfl) (by kernel_rfl) (fun _ _ _ h => h) (Or.inl ⟨by rfl, ?_⟩) ?_
      rotate_left 1
      · (intro w' _; go_simp); try with_reducible rfl
      try simp only [Act.put, List.setIfInBounds_toArray, List.set_cons_zero, List.set_cons_succ, Nat.zero_add]
      refine wpAnyY_take0 (i := 10) (v := ?_) rfl (by kernel_rfl) (by kernel_rfl) (by kernel_rfl) (by kernel_rfl) (fun _ _ _ h => h) (Or.inl ⟨by rfl, ?_⟩) ?_
      rotate_left 1
      · (intro w' _; go_simp); try with_reducible rfl
      try simp only [Act.put, List.setIfInBounds_toArray, List.set_cons_zero, List.set_cons_succ, Nat.zero_add]
      refine wpAnyY_take (i := 0) (v := ?_) rfl (by kernel_rfl) (by kernel_rfl) (by kernel_rfl) (by kernel_rfl) (fun _ _ _ h => h) (Or.inl ⟨by rfl, ?_⟩) (by assumption) ?_
      rotate_left 1
      · (intro w' hSw; obtain ⟨s0, s1, s2, s3, s4⟩ := hSw; go_simp); try with_reducible rfl
      try simp only [Act.put, List.setIfInBounds_toArray, List.set_cons_zero, List.set_cons_succ, Nat.zero_add]
      refine wpAnyY_take (i := 1) (v := ?_) rfl (by kernel_rfl) (by kernel_rfl) (by kernel_rfl) (by kernel_rfl) (fun _ _ _ h => h) (Or.inl ⟨by rfl, ?_⟩) (by assumption) ?_
      rotate_left 1
      · (intro w' hSw; obtain ⟨s0, s1, s2, s3, s4⟩ := hSw; go_simp); try with_reducible rfl
      try simp only [Act.put, List.setIfInBounds_toArray, List.set_cons_zero, List.set_cons_succ, Nat.zero_add]
      refine wpAnyY_take (i := 4) (v := ?_) rfl (by kernel_rfl) (by kernel_rfl) (by kernel_rfl) (by kernel_rfl) (fun _ _ _ h => h) (Or.inl ⟨by rfl, ?_⟩) (by assumption) ?_
      rotate_left 1
      · (intro w' hSw; obtain ⟨s0, s1, s2, s3, s4⟩ := hSw; go_simp); try with_reducible rfl
      try simp only [Act.put, List.setIfInBounds_toArray, List.set_cons_zero, List.set_cons_succ, Nat.zero_add]
      refine wpAnyY_take (i := 5) (v := ?_) rfl (by kernel_rfl) (by kernel_rfl) (by kernel_rfl) (by kernel_rfl) (fun _ _ _ h => h) (Or.inl ⟨by rfl, ?_⟩) (by assumption) ?_
      rotate_left 1
      · (intro w' hSw; obtain ⟨s0, s1, s2, s3, s4⟩ := hSw; go_simp); try with_reducible rfl
      try simp only [Act.put, List.setIfInBounds_toArray, List.set_cons_zero, List.set_cons_succ, Nat.zero_add]
      refine wpAnyY_take (i := 6) (v := ?_) rfl (by kernel_rfl) (by kernel_rfl) (by kernel_rfl) (by kernel_rfl) (fun _ _ _ h => h) (Or.inl ⟨by rfl, ?_⟩) (by assumption) ?_
      rotate_left 1
      · (intro w' hSw; obtain ⟨s0, s1, s2, s3, s4⟩ := hSw; go_simp); try with_reducible rfl
      try simp only [Act.put, List.setIfInBounds_toArray, List.set_cons_zero, List.set_cons_succ, Nat.zero_add]
      refine wpAnyY_take (i := 7) (v := ?_) rfl (by kernel_rfl) (by kernel_rfl) (by kernel_rfl) (by kernel_rfl) (fun _ _ _ h => h) (Or.inl ⟨by rfl, ?_⟩) (by assumption) ?_
      rotate_left 1
      · (intro w' hSw; obtain ⟨s0, s1, s2, s3, s4⟩ := hSw; go_simp); try with_reducible rfl
      try simp only [Act.put, List.setIfInBounds_toArray, List.set_cons_zero, List.set_cons_succ, Nat.zero_add]
      refine wpAnyY_take (i := 11) (v := ?_) rfl (by kernel_rfl) (by kernel_rfl) (by kernel_rfl) (by kernel_rfl) (fun _ _ _ h => h) (Or.inl ⟨by rfl, ?_⟩) (by assumption) ?_
      rotate_left 1
      · (intro w' hSw; obtain ⟨s0, s1, s2, s3, s4⟩ := hSw; go_simp); try with_reducible rfl
      try simp only [Act.put, List.setIfInBounds_toArray, List.set_cons_zero, List.set_cons_succ, Nat.zero_add]
      refine wpAnyY_take (i := 12) (v := ?_) rfl (by kernel_rfl) (by kernel_rfl) (by kernel_rfl) (by kernel_rfl) (fun _ _ _ h => h) (Or.inl ⟨by rfl, ?_⟩) (by assumption) ?_
      rotate_left 1
      · (intro w' hSw; obtain ⟨s0, s1, s2, s3, s4⟩ := hSw; go_simp); try with_reducible rfl
      try simp only [Act.put, List.setIfInBounds_toArray, List.set_cons_zero, List.set_cons_succ, Nat.zero_add]
      refine wpAnyY_one0 (i := 13) rfl (by kernel_rfl) (by kernel_rfl) (fun K hK => ?_)
      go_simp
      obtain ⟨u2, hu2⟩ : ∃ x : World, (u.setCell ⟨g, kk * 2, none⟩ (.slice Ac nc cc)).setCell ⟨g, kk * 2 + 1, none⟩ (.slice Ae ne ce) = x := ⟨_, rfl⟩
      have HU2 := Lib.hid hu2
      have hn1 : u2.ownsRow w.heap.size 45 2 (.slice (some ⟨g, 0, none⟩) M.length c7) M.length (((vals M).set (kk * 2) (.slice Ac nc cc)).set (kk * 2 + 1) (.slice Ae ne ce)) := by rw [← hu2, ← HUE.out]; exact HN0.out
      have y0 : ∃ x, u2.cell? ⟨g, nk * 2, none⟩ = some x := ⟨_, (town_cell hn1 _ (by have := HKL.out.2; omega)).trans (List.getElem?_eq_getElem (by rw [List.length_set, List.length_set, vals_len]; have := HKL.out.2; omega))⟩
      have y1 : ∃ x, u2.cell? ⟨g, nk * 2 + 1, none⟩ = some x := ⟨_, (town_cell hn1 _ (by have := HKL.out.2; omega)).trans (List.getElem?_eq_getElem (by rw [List.length_set, List.length_set, vals_len]; have := HKL.out.2; omega))⟩
      obtain ⟨x0, y0⟩ := y0
      obtain ⟨x1, y1⟩ := y1
      have y2 := town_frozen hn1 (nk * 2)
      have y3 := town_frozen hn1 (nk * 2 + 1)
      clear hn1 p0 p1 q0 q1 q2 q3
      rw [hu2]
      refine hK.out _ _ ?_
      clear hK K
      try simp only [Act.put, List.setIfInBounds_toArray, List.set_cons_zero, List.set_cons_succ, Nat.zero_add]
      refine wpAnyY_take0 (i := 14) (v := ?_) rfl (by kernel_rfl) (by kernel_rfl) (by kernel_rfl) (by kernel_rfl) (fun _ _ _ h => h) (Or.inl ⟨by rfl, ?_⟩) ?_
      rotate_left 1
      · (intro w' _; go_simp); try with_reducible rfl
      try simp only [Act.put, List.setIfInBounds_toArray, List.set_cons_zero, List.set_cons_succ, Nat.zero_add]
      refine wpAnyY_one0 (i := 15) rfl (by kernel_rfl) (by kernel_rfl) (fun K hK => ?_)
      go_simp
      refine hK.out _ _ ?_
      clear hK K
      try simp only [Act.put, List.setIfInBounds_toArray, List.set_cons_zero, List.set_cons_succ, Nat.zero_add]
      refine wpAnyY_done (by kernel_rfl) ?_ _
      obtain ⟨M3, hM3⟩ : ∃ z, (M.set kk (M[nk]'HKL.out.2)).set nk (M[kk]'HKL.out.1) = z := ⟨_, rfl⟩
      have HNX : Hid (TurnM w ((u2.setCell ⟨g, nk * 2, none⟩ (.slice Aa na ca)).setCell ⟨g, nk * 2 + 1, none⟩ (.slice Ab nb cb)) ps (.slice (some ⟨g, 0, none⟩) n c7) M3) := Lib.hid (by
        have h := HSW.out
        rw [hM3] at h
        rw [HMML.out] at h
        rw [← HU2.out, ← HUE.out]
        exact ⟨h.own, h.rows, h.like⟩)
      clear hM3
      have HBN : Hid (Below w.heap.size w ((u2.setCell ⟨g, nk * 2, none⟩ (.slice Aa na ca)).setCell ⟨g, nk * 2 + 1, none⟩ (.slice Ab nb cb))) := Lib.hid (by
        rw [← HU2.out, ← HUE.out]
        exact ((((HB_wr.out.drew).setCell (p := ⟨g, kk * 2, none⟩) hg1 _).setCell (p := ⟨g, kk * 2 + 1, none⟩) hg1 _).setCell (p := ⟨g, nk * 2, none⟩) hg1 _).setCell (p := ⟨g, nk * 2 + 1, none⟩) hg1 _)
      clear hHeld y0 y1 y2 y3
      go_wp2_with fail
      go_roundg (300 - (i + 1))
      case measure => omega
      case rel => exact ⟨i + 1, _, by go_num, rfl, by omega, HBN.out, HNX.out⟩
    have hqn : -q = (nk : Int) := by have := HNK.out; omega
    clear HNK hq1 hq2
    have HKL0 : Hid (kk < M.length) := Lib.hid (by rw [HMN.out]; exact hkl)
    obtain ⟨⟨Aa, ca, ea, _⟩, ⟨Ab, cb, eb, _⟩⟩ := HTG.out.rows _ (List.getElem_mem HKL0.out)
    obtain ⟨q0, q1, q2, q3⟩ := HTG.out.cells HKL0.out
    rw [ea] at q0; rw [eb] at q1
    generalize (M[kk]'HKL0.out).2.1.length = na at *
    generalize (M[kk]'HKL0.out).2.2.length = nb at *
    have HEE := Lib.hid (And.intro ea eb)
    clear ea eb
    have HFP := Lib.hid (HTG.out.flip HKL0.out)
    have HN0 := Lib.hid (town_set HTG.out.own (i := kk * 2) (by have := HKL0.out; omega) (.slice Ab nb cb))
    go_upto_region 13 with fail
    obtain ⟨u, hu⟩ : ∃ u : World, wr.drew = u := ⟨_, rfl⟩
    have HUE := Lib.hid hu
    have q0 : u.cell? ⟨g, kk * 2, none⟩ = some (.slice Aa na ca) := by rw [← hu]; exact q0
    have q1 : u.cell? ⟨g, kk * 2 + 1, none⟩ = some (.slice Ab nb cb) := by rw [← hu]; exact q1
    have q2 : u.frozen? ⟨g, kk * 2, none⟩ = false := by rw [← hu]; exact q2
    refine wp_region_Y (S := (fun w' : World => w'.cell? ⟨g, kk * 2, none⟩ = some (.slice Aa na ca) ∧ w'.cell? ⟨g, kk * 2 + 1, none⟩ = some (.slice Ab nb cb) ∧ True)) 16 (by kernel_rfl) (by rw [hu]; exact ⟨q0, q1, trivial⟩) (fun hHeld => ?_)
    rw [hu] at hHeld ⊢
    clear hu
    refine wpAnyY_take0 (i := 2) (v := ?_) rfl (by kernel_rfl) (by kernel_rfl) (by kernel_rfl) (by kernel_rfl) (fun _ _ _ h => h) (Or.inl ⟨by rfl, ?_⟩) ?_
    rotate_left 1
    · (intro w' _; go_simp); try with_reducible rfl
    try simp only [Act.put, List.setIfInBounds_toArray, List.set_cons_zero, List.set_cons_succ, Nat.zero_add]
    refine wpAnyY_take0 (i := 3) (v := ?_) rfl (by kernel_rfl) (by kernel_rfl) (by kernel_rfl) (by kernel_rfl) (fun _ _ _ h => h) (Or.inl ⟨by rfl, ?_⟩) ?_
    rotate_left 1
    · (intro w' _; go_simp); try with_reducible rfl
    try simp only [Act.put, List.setIfInBounds_toArray, List.set_cons_zero, List.set_cons_succ, Nat.zero_add]
    refine wpAnyY_take0 (i := 9) (v := ?_) rfl (by kernel_rfl) (by kernel_rfl) (by kernel_rfl) (by kernel_rfl) (fun _ _ _ h => h) (Or.inl ⟨by rfl, ?_⟩) ?_
    rotate_left 1
    · (intro w' _; go_simp); try with_reducible rfl
    try simp only [Act.put, List.setIfInBounds_toArray, List.set_cons_zero, List.set_cons_succ, Nat.zero_add]
    refine wpAnyY_take0 (i := 10) (v := ?_) rfl (by kernel_rfl) (by kernel_rfl) (by kernel_rfl) (by kernel_rfl) (fun _ _ _ h => h) (Or.inl ⟨by rfl, ?_⟩) ?_
    rotate_left 1
    · (intro w' _; go_simp); try with_reducible rfl
    try simp only [Act.put, List.setIfInBounds_toArray, List.set_cons_zero, List.set_cons_succ, Nat.zero_add]
    refine wpAnyY_take0 (i := 11) (v := ?_) rfl (by kernel_rfl) (by kernel_rfl) (by kernel_rfl) (by kernel_rfl) (fun _ _ _ h => h) (Or.inl ⟨by rfl, ?_⟩) ?_
    rotate_left 1
    · (intro w' _; go_simp); try with_reducible rfl
    try simp only [Act.put, List.setIfInBounds_toArray, List.set_cons_zero, List.set_cons_succ, Nat.zero_add]
    refine wpAnyY_take0 (i := 12) (v := ?_) rfl (by kernel_rfl) (by kernel_rfl) (by kernel_rfl) (by kernel_rfl) (fun _ _ _ h => h) (Or.inl ⟨by rfl, ?_⟩) ?_
    rotate_left 1
    · (intro w' _; go_simp); try with_reducible rfl
    try simp only [Act.put, List.setIfInBounds_toArray, List.set_cons_zero, List.set_cons_succ, Nat.zero_add]
    refine wpAnyY_take0 (i := 17) (v := ?_) rfl (by kernel_rfl) (by kernel_rfl) (by kernel_rfl) (by kernel_rfl) (fun _ _ _ h => h) (Or.inl ⟨by rfl, ?_⟩) ?_
    rotate_left 1
    · (intro w' _; go_simp); try with_reducible rfl
    try simp only [Act.put, List.setIfInBounds_toArray, List.set_cons_zero, List.set_cons_succ, Nat.zero_add]
    refine wpAnyY_take (i := 0) (v := ?_) rfl (by kernel_rfl) (by kernel_rfl) (by kernel_rfl) (by kernel_rfl) (fun _ _ _ h => h) (Or.inl ⟨by rfl, ?_⟩) (by assumption) ?_
    rotate_left 1
    · (intro w' hSw; obtain ⟨s0, s1, s2⟩ := hSw; go_simp); try with_reducible rfl
    try simp only [Act.put, List.setIfInBounds_toArray, List.set_cons_zero, List.set_cons_succ, Nat.zero_add]
    refine wpAnyY_take (i := 1) (v := ?_) rfl (by kernel_rfl) (by kernel_rfl) (by kernel_rfl) (by kernel_rfl) (fun _ _ _ h => h) (Or.inl ⟨by rfl, ?_⟩) (by assumption) ?_
    rotate_left 1
    · (intro w' hSw; obtain ⟨s0, s1, s2⟩ := hSw; go_simp); try with_reducible rfl
    try simp only [Act.put, List.setIfInBounds_toArray, List.set_cons_zero, List.set_cons_succ, Nat.zero_add]
    refine wpAnyY_take0 (i := 14) (v := ?_) rfl (by kernel_rfl) (by kernel_rfl) (by kernel_rfl) (by kernel_rfl) (fun _ _ _ h => h) (Or.inl ⟨by rfl, ?_⟩) ?_
    rotate_left 1
    · (intro w' _; go_simp); try with_reducible rfl
    try simp only [Act.put, List.setIfInBounds_toArray, List.set_cons_zero, List.set_cons_succ, Nat.zero_add]
    refine wpAnyY_take (i := 4) (v := ?_) rfl (by kernel_rfl) (by kernel_rfl) (by kernel_rfl) (by kernel_rfl) (fun _ _ _ h => h) (Or.inl ⟨by rfl, ?_⟩) (by assumption) ?_
    rotate_left 1
    · (intro w' hSw; obtain ⟨s0, s1, s2⟩ := hSw; go_simp); try with_reducible rfl
    try simp only [Act.put, List.setIfInBounds_toArray, List.set_cons_zero, List.set_cons_succ, Nat.zero_add]
    refine wpAnyY_take (i := 5) (v := ?_) rfl (by kernel_rfl) (by kernel_rfl) (by kernel_rfl) (by kernel_rfl) (fun _ _ _ h => h) (Or.inl ⟨by rfl, ?_⟩) (by assumption) ?_
    rotate_left 1
    · (intro w' hSw; obtain ⟨s0, s1, s2⟩ := hSw; go_simp); try with_reducible rfl
    try simp only [Act.put, List.setIfInBounds_toArray, List.set_cons_zero, List.set_cons_succ, Nat.zero_add]
    refine wpAnyY_take (i := 6) (v := ?_) rfl (by kernel_rfl) (by kernel_rfl) (by kernel_rfl) (by kernel_rfl) (fun _ _ _ h => h) (Or.inl ⟨by rfl, ?_⟩) (by assumption) ?_
    rotate_left 1
    · (intro w' hSw; obtain ⟨s0, s1, s2⟩ := hSw; go_simp); try with_reducible rfl
    try simp only [Act.put, List.setIfInBounds_toArray, List.set_cons_zero, List.set_cons_succ, Nat.zero_add]
    refine wpAnyY_take (i := 7) (v := ?_) rfl (by kernel_rfl) (by kernel_rfl) (by kernel_rfl) (by kernel_rfl) (fun _ _ _ h => h) (Or.inl ⟨by rfl, ?_⟩) (by assumption) ?_
    rotate_left 1
    · (intro w' hSw; obtain ⟨s0, s1, s2⟩ := hSw; go_simp); try with_reducible rfl
    try simp only [Act.put, List.setIfInBounds_toArray, List.set_cons_zero, List.set_cons_succ, Nat.zero_add]
    refine wpAnyY_take (i := 8) (v := ?_) rfl (by kernel_rfl) (by kernel_rfl) (by kernel_rfl) (by kernel_rfl) (fun _ _ _ h => h) (Or.inl ⟨by rfl, ?_⟩) (by assumption) ?_
    rotate_left 1
    · (intro w' hSw; obtain ⟨s0, s1, s2⟩ := hSw; go_simp); try with_reducible rfl
    try simp only [Act.put, List.setIfInBounds_toArray, List.set_cons_zero, List.set_cons_succ, Nat.zero_add]
    refine wpAnyY_take (i := 13) (v := ?_) rfl (by kernel_rfl) (by kernel_rfl) (by kernel_rfl) (by kernel_rfl) (fun _ _ _ h => h) (Or.inl ⟨by rfl, ?_⟩) (by assumption) ?_
    rotate_left 1
    · (intro w' hSw; obtain ⟨s0, s1, s2⟩ := hSw; go_simp); try with_reducible rfl
    try simp only [Act.put, List.setIfInBounds_toArray, List.set_cons_zero, List.set_cons_succ, Nat.zero_add]
    refine wpAnyY_take (i := 15) (v := ?_) rfl (by kernel_rfl) (by kernel_rfl) (by kernel_rfl) (by kernel_rfl) (fun _ _ _ h => h) (Or.inl ⟨by rfl, ?_⟩) (by assumption) ?_
    rotate_left 1
    · (intro w' hSw; obtain ⟨s0, s1, s2⟩ := hSw; go_simp); try with_reducible rfl
    try simp only [Act.put, List.setIfInBounds_toArray, List.set_cons_zero, List.set_cons_succ, Nat.zero_add]
    refine wpAnyY_one0 (i := 16) rfl (by kernel_rfl) (by kernel_rfl) (fun K hK => ?_)
    go_simp
    obtain ⟨u2, hu2⟩ : ∃ x : World, u.setCell ⟨g, kk * 2, none⟩ (.slice Ab nb cb) = x := ⟨_, rfl⟩
    have HU2 := Lib.hid hu2
    have hn1 : u2.ownsRow w.heap.size 45 2 (.slice (some ⟨g, 0, none⟩) M.length c7) M.length ((vals M).set (kk * 2) (.slice Ab nb cb)) := by rw [← hu2, ← HUE.out]; exact HN0.out
    have y1 : ∃ x, u2.cell? ⟨g, kk * 2 + 1, none⟩ = some x := ⟨_, (town_cell hn1 _ (by have := HKL0.out; omega)).trans (List.getElem?_eq_getElem (by rw [List.length_set, vals_len]; have := HKL0.out; omega))⟩
    obtain ⟨x1, y1⟩ := y1
    have y3 := town_frozen hn1 (kk * 2 + 1)
    clear hn1 q0 q1 q2 q3
    rw [hu2]
    refine hK.out _ _ ?_
    clear hK K
    try simp only [Act.put, List.setIfInBounds_toArray, List.set_cons_zero, List.set_cons_succ, Nat.zero_add]
    refine wpAnyY_take0 (i := 18) (v := ?_) rfl (by kernel_rfl) (by kernel_rfl) (by kernel_rfl) (by kernel_rfl) (fun _ _ _ h => h) (Or.inl ⟨by rfl, ?_⟩) ?_
    rotate_left 1
    · (intro w' _; go_simp); try with_reducible rfl
    try simp only [Act.put, List.setIfInBounds_toArray, List.set_cons_zero, List.set_cons_succ, Nat.zero_add]
    refine wpAnyY_one0 (i := 19) rfl (by kernel_rfl) (by kernel_rfl) (fun K hK => ?_)
    go_simp
    refine hK.out _ _ ?_
    clear hK K
    try simp only [Act.put, List.setIfInBounds_toArray, List.set_cons_zero, List.set_cons_succ, Nat.zero_add]
    refine wpAnyY_done (by kernel_rfl) ?_ _
    obtain ⟨u3, hu3⟩ : ∃ x : World, u2.setCell ⟨g, kk * 2 + 1, none⟩ (.slice Aa na ca) = x := ⟨_, rfl⟩
    obtain ⟨M2, hM2⟩ : ∃ z, M.set kk (((M[kk]'HKL0.out).1.2, (M[kk]'HKL0.out).1.1), swp (M[kk]'HKL0.out).2) = z := ⟨_, rfl⟩
    have HMN2 : Hid (M2.length = n) := Lib.hid (by rw [← hM2, List.length_set]; exact HMN.out)
    have HTG2 : Hid (TurnM w u3 ps (.slice (some ⟨g, 0, none⟩) M2.length c7) M2) := Lib.hid (by
      have h := HFP.out
      rw [hM2, HEE.out.1, HEE.out.2] at h
      rw [HMN2.out, ← hu3, ← HU2.out, ← HUE.out]
      rw [HMN.out] at h
      exact ⟨h.own, h.rows, h.like⟩)
    have HB_u3 : Hid (Below w.heap.size w u3) := Lib.hid (by
      rw [← hu3, ← HU2.out, ← HUE.out]
      exact ((HB_w.out.drew).setCell (p := ⟨g, kk * 2, none⟩) hg1 _).setCell (p := ⟨g, kk * 2 + 1, none⟩) hg1 _)
    rw [hu3]
    clear hu3 hHeld y1 y3 hM2 HFP HEE HN0 HU2 HUE
    replace HMN := HMN2
    replace HB_w := HB_u3
    have HMML : Hid (M2.length = n) := Lib.hid (by first | exact HMN.out | (rw [List.length_set]; exact HMN.out))
    have HKL : Hid (kk < M2.length ∧ nk < M2.length) := Lib.hid (by rw [HMML.out]; exact ⟨hkl, hnl⟩)
    obtain ⟨⟨Aa, ca, ea, _⟩, ⟨Ab, cb, eb, _⟩⟩ := HTG2.out.rows _ (List.getElem_mem HKL.out.1)
    obtain ⟨⟨Ac, cc, ec, _⟩, ⟨Ae, ce, ee, _⟩⟩ := HTG2.out.rows _ (List.getElem_mem HKL.out.2)
    obtain ⟨q0, q1, q2, q3⟩ := HTG2.out.cells HKL.out.1
    obtain ⟨p0, p1, p2, p3⟩ := HTG2.out.cells HKL.out.2
    rw [ea] at q0; rw [eb] at q1; rw [ec] at p0; rw [ee] at p1
    generalize (M2[kk]'HKL.out.1).2.1.length = na at *
    generalize (M2[kk]'HKL.out.1).2.2.length = nb at *
    generalize (M2[nk]'HKL.out.2).2.1.length = nc at *
    generalize (M2[nk]'HKL.out.2).2.2.length = ne at *
    have HEE := Lib.hid (And.intro ea (And.intro eb (And.intro ec ee)))
    clear ea eb ec ee
    have HSW := Lib.hid (HTG2.out.swap HKL.out.1 HKL.out.2)
    rw [HEE.out.1, HEE.out.2.1, HEE.out.2.2.1, HEE.out.2.2.2] at HSW
    have HN0 := Lib.hid (town_set (town_set HTG2.out.own (i := kk * 2) (by have := HKL.out.1; omega) (.slice Ac nc cc)) (i := kk * 2 + 1) (by have := HKL.out.1; omega) (.slice Ae ne ce))
    go_upto_region 14 with fail
    obtain ⟨u, hu⟩ : ∃ u : World, u3.drew = u := ⟨_, rfl⟩
    have HUE := Lib.hid hu
    have q0 : u.cell? ⟨g, kk * 2, none⟩ = some (.slice Aa na ca) := by rw [← hu]; exact q0
    have q1 : u.cell? ⟨g, kk * 2 + 1, none⟩ = some (.slice Ab nb cb) := by rw [← hu]; exact q1
    have p0 : u.cell? ⟨g, nk * 2, none⟩ = some (.slice Ac nc cc) := by rw [← hu]; exact p0
    have p1 : u.cell? ⟨g, nk * 2 + 1, none⟩ = some (.slice Ae ne ce) := by rw [← hu]; exact p1
    have q2 : u.frozen? ⟨g, kk * 2, none⟩ = false := by rw [← hu]; exact q2
    have q3 : u.frozen? ⟨g, kk * 2 + 1, none⟩ = false := by rw [← hu]; exact q3
    refine wp_region_Y (S := (fun w' : World => w'.cell? ⟨g, kk * 2, none⟩ = some (.slice Aa na ca) ∧ w'.cell? ⟨g, kk * 2 + 1, none⟩ = some (.slice Ab nb cb) ∧ w'.cell? ⟨g, nk * 2, none⟩ = some (.slice Ac nc cc) ∧ w'.cell? ⟨g, nk * 2 + 1, none⟩ = some (.slice Ae ne ce) ∧ True)) 13 (by kernel_rfl) (by rw [hu]; exact ⟨q0, q1, p0, p1, trivial⟩) (fun hHeld => ?_)
    rw [hu] at hHeld ⊢
    clear hu
    refine wpAnyY_take0 (i := 2) (v := ?_) rfl (by kernel_rfl) (by kernel_rfl) (by kernel_rfl) (by kernel_rfl) (fun _ _ _ h => h) (Or.inl ⟨by rfl, ?_⟩) ?_
    rotate_left 1
    · (intro w' _; go_simp); try with_reducible rfl
    try simp only [Act.put, List.setIfInBounds_toArray, List.set_cons_zero, List.set_cons_succ, Nat.zero_add]
    refine wpAnyY_take0 (i := 3) (v := ?_) rfl (by kernel_rfl) (by kernel_rfl) (by kernel_rfl) (by kernel_rfl) (fun _ _ _ h => h) (Or.inl ⟨by rfl, ?_⟩) ?_
    rotate_left 1
    · (intro w' _; go_simp); try with_reducible rfl
    try simp only [Act.put, List.setIfInBounds_toArray, List.set_cons_zero, List.set_cons_succ, Nat.zero_add]
    refine wpAnyY_take0 (i := 8) (v := ?_) rfl (by kernel_rfl) (by kernel_rfl) (by kernel_rfl) (by kernel_rfl) (fun _ _ _ h => h) (Or.inl ⟨by rfl, ?_⟩) ?_
    rotate_left 1
    · (intro w' _; go_simp); try with_reducible rfl
    try simp only [Act.put, List.setIfInBounds_toArray, List.set_cons_zero, List.set_cons_succ, Nat.zero_add]
    refine wpAnyY_take0 (i := 9) (v := ?_) rfl (by kernel_rfl) (by kernel_rfl) (by kernel_rfl) (by kernel_rfl) (fun _ _ _ h => h) (Or.inl ⟨by rfl, ?_⟩) ?_
    rotate_left 1
    · (intro w' _; go_simp); try with_reducible rfl
    try simp only [Act.put, List.setIfInBounds_toArray, List.set_cons_zero, List.set_cons_succ, Nat.zero_add]
    refine wpAnyY_take0 (i := 10) (v := ?_) rfl (by kernel_rfl) (by kernel_rfl) (by kernel_rfl) (by kernel_rfl) (fun _ _ _ h => h) (Or.inl ⟨by rfl, ?_⟩) ?_
    rotate_left 1
    · (intro w' _; go_simp); try with_reducible rfl
    try simp only [Act.put, List.setIfInBounds_toArray, List.set_cons_zero, List.set_cons_succ, Nat.zero_add]
    refine wpAnyY_take (i := 0) (v := ?_) rfl (by kernel_rfl) (by kernel_rfl) (by kernel_rfl) (by kernel_rfl) (fun _ _ _ h => h) (Or.inl ⟨by rfl, ?_⟩) (by assumption) ?_
    rotate_left 1
    · (intro w' hSw; obtain ⟨s0, s1, s2, s3, s4⟩ := hSw; go_simp); try with_reducible rfl
    try simp only [Act.put, List.setIfInBounds_toArray, List.set_cons_zero, List.set_cons_succ, Nat.zero_add]
    refine wpAnyY_take (i := 1) (v := ?_) rfl (by kernel_rfl) (by kernel_rfl) (by kernel_rfl) (by kernel_rfl) (fun _ _ _ h => h) (Or.inl ⟨by rfl, ?_⟩) (by assumption) ?_
    rotate_left 1
    · (intro w' hSw; obtain ⟨s0, s1, s2, s3, s4⟩ := hSw; go_simp); try with_reducible rfl
    try simp only [Act.put, List.setIfInBounds_toArray, List.set_cons_zero, List.set_cons_succ, Nat.zero_add]
    refine wpAnyY_take (i := 4) (v := ?_) rfl (by kernel_rfl) (by kernel_rfl) (by kernel_rfl) (by kernel_rfl) (fun _ _ _ h => h) (Or.inl ⟨by rfl, ?_⟩) (by assumption) ?_
    rotate_left 1
    · (intro w' hSw; obtain ⟨s0, s1, s2, s3, s4⟩ := hSw; go_simp); try with_reducible rfl
    try simp only [Act.put, List.setIfInBounds_toArray, List.set_cons_zero, List.set_cons_succ, Nat.zero_add]
    refine wpAnyY_take (i := 5) (v := ?_) rfl (by kernel_rfl) (by kernel_rfl) (by kernel_rfl) (by kernel_rfl) (fun _ _ _ h => h) (Or.inl ⟨by rfl, ?_⟩) (by assumption) ?_
    rotate_left 1
    · (intro w' hSw; obtain ⟨s0, s1, s2, s3, s4⟩ := hSw; go_simp); try with_reducible rfl
    try simp only [Act.put, List.setIfInBounds_toArray, List.set_cons_zero, List.set_cons_succ, Nat.zero_add]
    refine wpAnyY_take (i := 6) (v := ?_) rfl (by kernel_rfl) (by kernel_rfl) (by kernel_rfl) (by kernel_rfl) (fun _ _ _ h => h) (Or.inl ⟨by rfl, ?_⟩) (by assumption) ?_
    rotate_left 1
    · (intro w' hSw; obtain ⟨s0, s1, s2, s3, s4⟩ := hSw; go_simp); try with_reducible rfl
    try simp only [Act.put, List.setIfInBounds_toArray, List.set_cons_zero, List.set_cons_succ, Nat.zero_add]
    refine wpAnyY_take (i := 7) (v := ?_) rfl (by kernel_rfl) (by kernel_rfl) (by kernel_rfl) (by kernel_rfl) (fun _ _ _ h => h) (Or.inl ⟨by rfl, ?_⟩) (by assumption) ?_
    rotate_left 1
    · (intro w' hSw; obtain ⟨s0, s1, s2, s3, s4⟩ := hSw; go_simp); try with_reducible rfl
    try simp only [Act.put, List.setIfInBounds_toArray, List.set_cons_zero, List.set_cons_succ, Nat.zero_add]
    refine wpAnyY_take (i := 11) (v := ?_) rfl (by kernel_rfl) (by kernel_rfl) (by kernel_rfl) (by kernel_rfl) (fun _ _ _ h => h) (Or.inl ⟨by rfl, ?_⟩) (by assumption) ?_
    rotate_left 1
    · (intro w' hSw; obtain ⟨s0, s1, s2, s3, s4⟩ := hSw; go_simp); try with_reducible rfl
    try simp only [Act.put, List.setIfInBounds_toArray, List.set_cons_zero, List.set_cons_succ, Nat.zero_add]
    refine wpAnyY_take (i := 12) (v := ?_) rfl (by kernel_rfl) (by kernel_rfl) (by kernel_rfl) (by kernel_rfl) (fun _ _ _ h => h) (Or.inl ⟨by rfl, ?_⟩) (by assumption) ?_
    rotate_left 1
    · (intro w' hSw; obtain ⟨s0, s1, s2, s3, s4⟩ := hSw; go_simp); try with_reducible rfl
    try simp only [Act.put, List.setIfInBounds_toArray, List.set_cons_zero, List.set_cons_succ, Nat.zero_add]
    refine wpAnyY_one0 (i := 13) rfl (by kernel_rfl) (by kernel_rfl) (fun K hK => ?_)
    go_simp
    obtain ⟨u2, hu2⟩ : ∃ x : World, (u.setCell ⟨g, kk * 2, none⟩ (.slice Ac nc cc)).setCell ⟨g, kk * 2 + 1, none⟩ (.slice Ae ne ce) = x := ⟨_, rfl⟩
    have HU2 := Lib.hid hu2
    have hn1 : u2.ownsRow w.heap.size 45 2 (.slice (some ⟨g, 0, none⟩) M2.length c7) M2.length (((vals M2).set (kk * 2) (.slice Ac nc cc)).set (kk * 2 + 1) (.slice Ae ne ce)) := by rw [← hu2, ← HUE.out]; exact HN0.out
    have y0 : ∃ x, u2.cell? ⟨g, nk * 2, none⟩ = some x := ⟨_, (town_cell hn1 _ (by have := HKL.out.2; omega)).trans (List.getElem?_eq_getElem (by rw [List.length_set, List.length_set, vals_len]; have := HKL.out.2; omega))⟩
    have y1 : ∃ x, u2.cell? ⟨g, nk * 2 + 1, none⟩ = some x := ⟨_, (town_cell hn1 _ (by have := HKL.out.2; omega)).trans (List.getElem?_eq_getElem (by rw [List.length_set, List.length_set, vals_len]; have := HKL.out.2; omega))⟩
    obtain ⟨x0, y0⟩ := y0
    obtain ⟨x1, y1⟩ := y1
    have y2 := town_frozen hn1 (nk * 2)
    have y3 := town_frozen hn1 (nk * 2 + 1)
    clear hn1 p0 p1 q0 q1 q2 q3
    rw [hu2]
    refine hK.out _ _ ?_
    clear hK K
    try simp only [Act.put, List.setIfInBounds_toArray, List.set_cons_zero, List.set_cons_succ, Nat.zero_add]
    refine wpAnyY_take0 (i := 14) (v := ?_) rfl (by kernel_rfl) (by kernel_rfl) (by kernel_rfl) (by kernel_rfl) (fun _ _ _ h => h) (Or.inl ⟨by rfl, ?_⟩) ?_
    rotate_left 1
    · (intro w' _; go_simp); try with_reducible rfl
    try simp only [Act.put, List.setIfInBounds_toArray, List.set_cons_zero, List.set_cons_succ, Nat.zero_add]
    refine wpAnyY_one0 (i := 15) rfl (by kernel_rfl) (by kernel_rfl) (fun K hK => ?_)
    go_simp
    refine hK.out _ _ ?_
    clear hK K
    try simp only [Act.put, List.setIfInBounds_toArray, List.set_cons_zero, List.set_cons_succ, Nat.zero_add]
    refine wpAnyY_done (by kernel_rfl) ?_ _
    obtain ⟨M3, hM3⟩ : ∃ z, (M2.set kk (M2[nk]'HKL.out.2)).set nk (M2[kk]'HKL.out.1) = z := ⟨_, rfl⟩
    have HNX : Hid (TurnM w ((u2.setCell ⟨g, nk * 2, none⟩ (.slice Aa na ca)).setCell ⟨g, nk * 2 + 1, none⟩ (.slice Ab nb cb)) ps (.slice (some ⟨g, 0, none⟩) n c7) M3) := Lib.hid (by
      have h := HSW.out
      rw [hM3] at h
      rw [HMML.out] at h
      rw [← HU2.out, ← HUE.out]
      exact ⟨h.own, h.rows, h.like⟩)
    clear hM3
    have HBN : Hid (Below w.heap.size w ((u2.setCell ⟨g, nk * 2, none⟩ (.slice Aa na ca)).setCell ⟨g, nk * 2 + 1, none⟩ (.slice Ab nb cb))) := Lib.hid (by
      rw [← HU2.out, ← HUE.out]
      exact ((((HB_u3.out.drew).setCell (p := ⟨g, kk * 2, none⟩) hg1 _).setCell (p := ⟨g, kk * 2 + 1, none⟩) hg1 _).setCell (p := ⟨g, nk * 2, none⟩) hg1 _).setCell (p := ⟨g, nk * 2 + 1, none⟩) hg1 _)
    clear hHeld y0 y1 y2 y3
    go_wp2_with fail
    go_roundg (300 - (i + 1))
    case measure => omega
    case rel => exact ⟨i + 1, _, by go_num, rfl, by omega, HBN.out, HNX.out⟩
end Go.Proofs.YtgcbnndbeoekgaaDoor
