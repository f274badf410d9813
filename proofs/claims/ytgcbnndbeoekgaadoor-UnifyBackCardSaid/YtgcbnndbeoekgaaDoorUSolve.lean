import Derived.Test.YtgcbnndbeoekgaaDoorSolveQ
import Derived.Test.YtgcbnndbeoekgaaDoorUAdd
set_option linter.unusedSimpArgs false
set_option linter.unusedVariables false
/- unify.Solve: pair by pair -/
namespace Go.Proofs.YtgcbnndbeoekgaaDoor
open Go Go.RowKit Go.Maps

/-- a pair of terms -/
def EPair (w : World) (F : Nat → Prop) (p : List TN × List TN) (cs : List Value) : Prop := ∃ v1 v2, cs = [v1, v2] ∧ IsRow 3 ETN w F v1 p.1 ∧ IsRow 3 ETN w F v2 p.2
theorem EPair.stays : Stays EPair := fun _ _ _ _ _ _ hF hk ⟨v1, v2, e, h1, h2⟩ => ⟨v1, v2, e, h1.keep ETN.stays hk hF, h2.keep ETN.stays hk hF⟩
theorem pair_at {w : World} {F : Nat → Prop} {A : Option Addr} {l : List (List TN × List TN)} (h : RowOf 2 EPair w F A l) {i : Nat} (hi : i < l.length) :
    ∃ b off S1 c1 S2 c2, A = some ⟨b, off, none⟩ ∧ F b ∧ w.cell? ⟨b, off + i * 2, none⟩ = some (.slice S1 l[i].1.length c1) ∧ w.cell? ⟨b, off + i * 2 + 1, none⟩ = some (.slice S2 l[i].2.length c2) ∧
      (l[i].1.length ≤ c1 ∧ c1 ≤ maxLen ∧ RowOf 3 ETN w F S1 l[i].1) ∧ l[i].2.length ≤ c2 ∧ c2 ≤ maxLen ∧ RowOf 3 ETN w F S2 l[i].2 := by
  obtain ⟨b, off, rfl, hb⟩ := h.1 (by intro hn; subst hn; simp at hi)
  obtain ⟨cs, _, ⟨v1, v2, hx, ⟨S1, c1, rfl, a1, a2, a3⟩, ⟨S2, c2, rfl, b1, b2, b3⟩⟩, hc⟩ := h.2 i hi
  have hc := hc b off rfl
  subst hx
  exact ⟨b, off, S1, c1, S2, c2, rfl, hb, hc 0 (by omega), hc 1 (by omega), ⟨a1, a2, a3⟩, b1, b2, b3⟩
/-- a bound, a place, an error -/
def SolveRes (w : World) (ps : List (List TN × List TN)) (e : Ending) (w' : World) : Prop :=
  ∃ (err at_ : Int) (out : List ABind) (v : Value), SolveSays ps err at_ out ∧ e = .returned (.tuple #[v, .int .i64 at_, .int .i64 err]) ∧ IsRow 2 EBind w' (fun b => w.heap.size ≤ b ∧ b < w'.heap.size) v out ∧ Below w.heap.size w w'
theorem nodeR_small {t : TN} (h : NodeR t) : t.name.size ≤ 9223372036854775807 ∧ InI t.var := by
  rcases h with ⟨h1, h2, h3, _⟩ | ⟨h1, h2⟩
  · exact ⟨by omega, by omega, by omega⟩
  · refine ⟨?_, by omega, by omega⟩
    have h3 : t.name.data.toList.length ≤ 32 := by
      cases e : t.name.data.toList with
      | nil => simp
      | cons c r =>
        rw [e] at h2
        unfold rightB at h2
        simp only [Bool.and_eq_true, decide_eq_true_eq] at h2
        simp only [List.length_cons]
        omega
    have : t.name.size = t.name.data.toList.length := by rw [Array.length_toList]; rfl
    omega
theorem SolvedTo.small {ps : List (List TN × List TN)} {k : Nat} {out : List ABind} (h : SolvedTo ps k out) : ∀ x ∈ out, ∀ t ∈ x.term, t.name.size ≤ 9223372036854775807 ∧ InI t.var := fun x hx t ht => by
  obtain ⟨bs, h1, h2⟩ := h.out
  rw [h2] at hx
  obtain ⟨p, hp, rfl⟩ := List.mem_map.1 hx
  exact nodeR_small (flat_nodeR p.2 0 (ok_wf h.wf h1 p hp).2 t ht)

set_option maxRecDepth 100000 in
set_option maxHeartbeats 8000000 in
theorem usolve_any (A : Option Addr) (c : Nat) (ps : List (List TN × List TN)) (w : World) (F : Nat → Prop) (hF : ∀ b, F b → b < w.heap.size) (hr : RowOf 2 EPair w F A ps) (hlc : ps.length ≤ c) (hc : c ≤ maxLen)
    (hz : ∀ p ∈ ps, (∀ t ∈ p.1, t.name.size ≤ 9223372036854775807) ∧ ∀ t ∈ p.2, t.name.size ≤ 9223372036854775807) (hfew : ps.length ≤ 4096 → ∀ k out, SolvedTo ps k out → out.length ≤ 2000) :
    Calls Tryd.prog 18 #[.slice A ps.length c] w (SolveRes w ps) := by
  have HR := Lib.hid hr; have HZ := Lib.hid hz; have HFEW := Lib.hid hfew
  unfold maxLen at hc
  obtain ⟨n, hn⟩ : ∃ n, ps.length = n := ⟨_, rfl⟩
  have HN := Lib.hid hn
  rw [hn] at hlc
  rw [hn]
  clear hr hz hfew hn
  go_enter Tryd.func18, Tryd.ntmps18
  by_cases hbig : 4096 < n
  · have hbig' : (4096 : Int) < n := by omega
    have HS : Hid (SolveSays ps 3 0 []) := Lib.hid (.inl ⟨by rw [HN.out]; exact hbig, rfl, rfl, rfl⟩)
    go_wp2
    refine bodyPost_ret (v := .tuple #[.slice none 0 0, .int .i64 0, .int .i64 3]) (by simp [results, Tryd.results18, go_sem]) rfl ?_
    exact ⟨3, 0, [], _, HS.out, rfl, IsRow.nil, Below.refl _ _⟩
  have hbig' : ¬ (4096 : Int) < n := by omega
  go_upto_region 5 with fail
  go_loopg [5, 15] n (fun g s5 s15 wx => ∃ (k : Nat) (out : List ABind), s15 = .int .i64 k ∧ g = n - k ∧ k ≤ n ∧ SolvedTo ps k out ∧ IsRow 2 EBind wx (fun b => w.heap.size ≤ b ∧ b < wx.heap.size) s5 out ∧ Below w.heap.size w wx)
  case atStart => exact ⟨0, [], rfl, rfl, Nat.zero_le _, SolvedTo.start, IsRow.nil, Below.refl _ _⟩
  case round =>
    obtain ⟨k, out, rfl, rfl, hk, hso, hro, hb⟩ := hrel
    have HSO := Lib.hid hso; have HB := Lib.hid hb
    obtain ⟨Ao, co, rfl, o1, o2, o3⟩ := hro
    have HRO := Lib.hid o3; have HOC : Hid (out.length ≤ co ∧ co ≤ maxLen) := Lib.hid ⟨o1, o2⟩
    have k0 : (0 : Int) ≤ k := by omega
    clear hso hb o1 o2 o3
    by_cases hkn : k < n
    · have hkn' : (k : Int) < n := by omega
      have HKP : Hid (k < ps.length) := Lib.hid (by rw [HN.out]; exact hkn)
      obtain ⟨b, off, S1, c1, S2, c2, rfl, hbF, d0, d1, ⟨x1, x2, x3⟩, y1, y2, y3⟩ := pair_at HR.out HKP.out
      replace d0 := (HB.out.cell (p := ⟨b, off + k * 2, none⟩) (hF b hbF)).trans d0
      replace d1 := (HB.out.cell (p := ⟨b, off + k * 2 + 1, none⟩) (hF b hbF)).trans d1
      obtain ⟨l1, hl1⟩ : ∃ z, (ps[k]'HKP.out).1 = z := ⟨_, rfl⟩
      obtain ⟨l2, hl2⟩ : ∃ z, (ps[k]'HKP.out).2 = z := ⟨_, rfl⟩
      have HL : Hid ((ps[k]'HKP.out).1 = l1 ∧ (ps[k]'HKP.out).2 = l2) := Lib.hid ⟨hl1, hl2⟩
      have HZK := Lib.hid (HZ.out _ (List.getElem_mem HKP.out))
      rw [hl1] at d0 x1 x3 HZK
      rw [hl2] at d1 y1 y3 HZK
      obtain ⟨u, hu⟩ : ∃ z : World, wr.alloc (.cells #[.slice S1 l1.length c1, .slice S2 l2.length c2] 45) = z := ⟨_, rfl⟩
      have HBU : Hid (Below wr.heap.size wr u) := Lib.hid (by rw [← hu]; exact (Below.refl _ _).alloc (Nat.le_refl _) _)
      have HWU : Hid (Below w.heap.size w u) := Lib.hid (HB.out.trans (HBU.out.mono HB.out.size))
      have HADD : Hid (Calls Tryd.prog 22 #[.slice Ao out.length co, .agg #[.slice S1 l1.length c1], .agg #[.slice S2 l2.length c2]] u (BoundRes u (AddSays out l1 l2))) := Lib.hid (uadd_any Ao co out S1 c1 l1 S2 c2 l2 u (fun b => b < wr.heap.size) (fun b h => Nat.lt_of_lt_of_le h HBU.out.size) (HRO.out.keep EBind.stays (Keep.below HBU.out (fun b h => h.2)) (fun b h => h.2))
        (x3.keep ETN.stays (Keep.below HWU.out hF) (fun b h => Nat.lt_of_lt_of_le (hF b h) HB.out.size)) (y3.keep ETN.stays (Keep.below HWU.out hF) (fun b h => Nat.lt_of_lt_of_le (hF b h) HB.out.size)) HOC.out.1 HOC.out.2 x1 x2 y1 y2 (by have := HFEW.out (by rw [HN.out]; omega) k out HSO.out; omega) HZK.out.1 HZK.out.2 HSO.out.small)
      have HUE := Lib.hid hu
      clear hl1 hl2 x1 x2 x3 y1 y2 y3 hu
      obtain ⟨m1, hm1⟩ : ∃ z, l1.length = z := ⟨_, rfl⟩
      obtain ⟨m2, hm2⟩ : ∃ z, l2.length = z := ⟨_, rfl⟩
      obtain ⟨mo, hmo⟩ : ∃ z, out.length = z := ⟨_, rfl⟩
      rw [hm1] at d0 HADD HUE
      rw [hm2] at d1 HADD HUE
      rw [hmo] at HADD
      (try rw [hmo])
      clear hm1 hm2
      go_wp2_with fail
      (try rw [HUE.out])
      refine HADD.out.mono ?_
      clear HADD d0 d1
      rintro _ w5 ⟨err, out', v, hsay, rfl, hrow, hb5⟩
      have HST := Lib.hid (HSO.out.added HKP.out (err := err) (out' := out') (by rw [HL.out.1, HL.out.2]; exact hsay))
      have HB5 : Hid (Below w.heap.size w w5) := Lib.hid (HWU.out.trans (hb5.mono HWU.out.size))
      have HROW : Hid (IsRow 2 EBind w5 (fun b => w.heap.size ≤ b ∧ b < w5.heap.size) v out') := Lib.hid (hrow.keep EBind.stays (Keep.refl _ _) (fun b h => ⟨Nat.le_trans HWU.out.size h.1, h.2⟩))
      clear hsay hrow hb5 HUE hmo
      by_cases he : err = 0
      · subst he
        have HNX : Hid (SolvedTo ps (k + 1) out') := Lib.hid (by
          rcases HST.out with ⟨_, h⟩ | ⟨h, _⟩
          · exact h
          · exact absurd rfl h)
        go_wp2_with fail
        go_roundg (n - (k + 1))
        case measure => omega
        case rel => exact ⟨k + 1, out', by go_num, rfl, by omega, HNX.out, HROW.out, HB5.out⟩
      · have he' : (err != 0) = true := by simp; exact he
        have HNX : Hid (SolveSays ps err (k : Nat) []) := Lib.hid (by
          rcases HST.out with ⟨h, _⟩ | ⟨_, h, _⟩
          · exact absurd h he
          · exact .inr (.inr ⟨by rw [HN.out]; omega, k, out, HSO.out, h, rfl, rfl⟩))
        clear he
        go_wp2_with fail
        refine bodyPost_ret (v := .tuple #[.slice none 0 0, .int .i64 k, .int .i64 err]) (by simp [results, Tryd.results18, go_sem]) rfl ?_
        exact ⟨err, (k : Nat), [], _, HNX.out, rfl, IsRow.nil, HB5.out⟩
    · have hkn' : ¬ (k : Int) < n := by omega
      have hke : k = ps.length := by rw [HN.out]; omega
      have HS : Hid (SolveSays ps 0 0 out) := Lib.hid (.inr (.inl ⟨by rw [HN.out]; omega, by rw [← hke]; exact HSO.out, rfl, rfl⟩))
      clear hke
      go_wp2_with fail
      refine bodyPost_ret (v := .tuple #[.slice Ao out.length co, .int .i64 0, .int .i64 0]) (by simp [results, Tryd.results18, go_sem]) rfl ?_
      exact ⟨0, 0, out, _, HS.out, rfl, ⟨Ao, co, rfl, HOC.out.1, HOC.out.2, HRO.out⟩, HB.out⟩
end Go.Proofs.YtgcbnndbeoekgaaDoor
